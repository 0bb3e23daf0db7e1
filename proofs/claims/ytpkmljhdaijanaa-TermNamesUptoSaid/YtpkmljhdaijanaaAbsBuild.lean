/- The abstract interpreter: literals. -/
import Derived.Test.YtpkmljhdaijanaaAbsOps
namespace Go.Abs

variable {id : Nat}
variable {M M' : Mem} {ρ ρ' : Ref} {G G' : Nat → Obj} {w w' : World} {nx : Nat} {Q : Nat → Prop} {P : Program} {C : Cfg}

theorem at_set (cs : Array Value) (i k : Nat) (v : Value) (h : i < cs.size) : at_ (cs.setIfInBounds i v) k = if k = i then v else at_ cs k := by
  simp only [at_, Array.getD_eq_getD_getElem?, Array.getElem?_setIfInBounds]
  by_cases hk : k = i
  · subst hk; simp [h]
  · rw [if_neg (fun e => hk e.symm), if_neg hk]

theorem fold_set (off : Nat) (l : List Value) : ∀ (s : Nat) (cs : Array Value), off + s + l.length ≤ cs.size →
    ((l.zipIdx s).foldl (fun cs p => cs.setIfInBounds (off + p.2) p.1) cs).size = cs.size ∧
    ∀ k, at_ ((l.zipIdx s).foldl (fun cs p => cs.setIfInBounds (off + p.2) p.1) cs) k = if off + s ≤ k ∧ k < off + s + l.length then l.getD (k - off - s) Go.undef else at_ cs k := by
  induction l with
  | nil => intro s cs _; exact ⟨rfl, fun k => by rw [if_neg (by simp)]; rfl⟩
  | cons v r ih =>
    intro s cs hs
    simp only [List.length_cons] at hs
    simp only [List.zipIdx_cons, List.foldl_cons]
    obtain ⟨h1, h2⟩ := ih (s + 1) (cs.setIfInBounds (off + s) v) (by simp; omega)
    refine ⟨h1.trans (by simp), fun k => ?_⟩
    rw [h2 k]
    by_cases hk : k = off + s
    · subst hk
      rw [if_neg (by omega), at_set _ _ _ _ (by omega), if_pos rfl, if_pos (by simp)]
      simp
    · by_cases hk2 : off + s ≤ k ∧ k < off + s + (r.length + 1)
      · rw [if_pos (by omega), if_pos (by simpa using hk2)]
        have : k - off - s = (k - off - (s + 1)) + 1 := by omega
        rw [this]; simp
      · rw [if_neg (by omega), if_neg (by simpa using hk2), at_set _ _ _ _ (by omega), if_neg hk]

theorem splice_get {α : Type} (l : List α) (off : Nat) (new : List α) (h : off + new.length ≤ l.length) (k : Nat) :
    (splice l off new)[k]? = if k < off then l[k]? else if k < off + new.length then new[k - off]? else l[k]? := by
  unfold splice
  rw [List.append_assoc, List.getElem?_append]
  have ht : (l.take off).length = off := by simp; omega
  rw [ht]
  split
  · rename_i hk
    rw [List.getElem?_take, if_pos hk]
  · rename_i hk
    rw [List.getElem?_append]
    split
    · rename_i hk2
      rw [if_pos (by omega)]
    · rename_i hk2
      rw [if_neg (by omega), List.getElem?_drop]
      congr 1; omega

theorem splice_len {α : Type} (l : List α) (off : Nat) (new : List α) (h : off + new.length ≤ l.length) : (splice l off new).length = l.length := by
  unfold splice; simp; omega

/-- Parts of a literal, and what they are. -/
def Parts (M : Mem) (ρ : Ref) (G : Nat → Obj) (ps : List (Nat × AV)) (qs : List (Nat × Value)) : Prop :=
  ps.length = qs.length ∧ ∀ (k : Nat) p q, ps[k]? = some p → qs[k]? = some q → p.1 = q.1 ∧ VA M ρ G p.2 q.2

theorem Parts.tail {p : Nat × AV} {q : Nat × Value} {ps : List (Nat × AV)} {qs : List (Nat × Value)} (h : Parts M ρ G (p :: ps) (q :: qs)) : Parts M ρ G ps qs :=
  ⟨by simpa using h.1, fun k a b ha hb => h.2 (k + 1) a b (by simpa using ha) (by simpa using hb)⟩

theorem fillA_ok (fs : List (Nat × Nat)) : ∀ (ps : List (Nat × AV)) (qs : List (Nat × Value)) (cs cs' : List AV) (vs : Array Value), fillA fs cs ps = some cs' → Parts M ρ G ps qs → VL (VA M ρ G) cs vs →
    ∃ vs', Instr.fill (fun i => fs[i]?) vs qs = some vs' ∧ VL (VA M ρ G) cs' vs' := by
  intro ps
  induction ps with
  | nil =>
    intro qs cs cs' vs h hp hc
    cases qs with
    | nil => simp only [fillA, Option.some.injEq] at h; subst h; exact ⟨vs, rfl, hc⟩
    | cons q qs => simp [Parts] at hp
  | cons p ps ih =>
    intro qs cs cs' vs h hp hc
    cases qs with
    | nil => simp [Parts] at hp
    | cons q qs =>
      obtain ⟨i, x⟩ := p
      obtain ⟨i', c⟩ := q
      obtain ⟨rfl, hx⟩ := hp.2 0 (i, x) (i', c) rfl rfl
      simp only at hx
      simp only [fillA] at h
      split at h
      · cases h
      · rename_i off size hfs
        split at h
        · rename_i hf
          obtain ⟨hf, hlen⟩ := hf
          have hcell := hx.cells hf
          have hn := AV.fits_len hf
          have hvs : vs.size = cs.length := hc.1.symm
          have hcs : c.cells.size = size := by rw [← hcell.1]; exact hn
          obtain ⟨g1, g2⟩ := fold_set off c.cells.toList 0 vs (by simp; omega)
          have hfold : (c.cells.zipIdx.foldl (fun (cs : Array Value) (p : Value × Nat) => cs.setIfInBounds (off + p.2) p.1) vs) = (c.cells.toList.zipIdx 0).foldl (fun cs p => cs.setIfInBounds (off + p.2) p.1) vs := by
            rw [← Array.foldl_toList]; simp
          have hnew : VL (VA M ρ G) (splice cs off x.cells) ((c.cells.toList.zipIdx 0).foldl (fun cs p => cs.setIfInBounds (off + p.2) p.1) vs) := by
            refine ⟨by rw [splice_len _ _ _ (by omega), g1]; exact hc.1, fun k y hy => ?_⟩
            rw [g2 k]
            rw [splice_get _ _ _ (by omega)] at hy
            split at hy
            · rw [if_neg (by omega)]; exact hc.2 k y hy
            · split at hy
              · rw [if_pos (by simp; omega)]
                have := hcell.2 (k - off) y hy
                rw [← at_list] at this
                simpa using this
              · rw [if_neg (by simp; omega)]; exact hc.2 k y hy
          obtain ⟨vs', k1, k2⟩ := ih qs _ cs' _ h hp.tail hnew
          refine ⟨vs', ?_, k2⟩
          simp only [Instr.fill, hfs]
          rw [if_neg (by simp; omega)]
          rw [← k1]
          congr 1
        · cases h

theorem run_places (fs : Array Field) (h : fieldsOk P (.struct fs) = true) :
    (fs.mapM fun f => (do pure (f.offset, ← sizeOf f.type) : Sem (Nat × Nat))).run P w = .ok (fs.map fun f => (f.offset, P.cellsOf f.type)) w := by
  have key : ∀ l : List Field, (l.all fun f => (P.info? f.type).isSome) = true → (l.mapM fun f => (do pure (f.offset, ← sizeOf f.type) : Sem (Nat × Nat))).run P w = .ok (l.map fun f => (f.offset, P.cellsOf f.type)) w := by
    intro l
    induction l with
    | nil => intro _; simp
    | cons f r ih =>
      intro hl
      simp only [List.all_cons, Bool.and_eq_true] at hl
      obtain ⟨info, hi⟩ := Option.isSome_iff_exists.1 hl.1
      simp only [List.mapM_cons, Sem.run_bind, run_sizeOf' hi, Result.andThen_ok, Sem.run_pure, ih hl.2, List.map_cons, Program.cellsOf, hi, Option.map_some, Option.getD_some]
  have := key fs.toList (by simpa [fieldsOk] using h)
  rw [Array.mapM_eq_mapM_toList]
  erw [Sem.run_map, this]
  simp only [Result.andThen_ok]
  congr 1
  apply Array.ext'
  simp

theorem aBuild_ok {t : TypeId} {ps : List (Nat × AV)} {qs : Array (Nat × Value)} {v : AV} {ups : List (Nat × U)} (h : aBuild C t ps = some (.val v ups)) (hp : Parts M ρ G ps qs.toList) :
    ups = [] ∧ ∃ u, (Instr.build t qs).run C.P w = .ok u w ∧ VA M ρ G v u := by
  unfold aBuild at h
  split at h
  · rename_i i hi
    split at h
    · rename_i fs hd
      split at h
      · rename_i cs hcs
        cases h
        obtain ⟨info, zv, d, h1, h2, h3, h4, h5, h6, h7, h8⟩ := tyOf_some hi
        rw [hd] at h5
        cases d <;> simp only [tyd, reduceCtorEq, TyD.st.injEq] at h5
        rename_i fds
        have hz := (cells_cv (M := M) (ρ := ρ) (G := G) zv).2
        rw [← h8] at hz
        obtain ⟨vs', k1, k2⟩ := fillA_ok fs ps qs.toList _ cs _ hcs hp hz
        refine ⟨rfl, .agg vs', ?_, VA_mkAgg k2⟩
        have hpl : (fun (i : Nat) => (fds.map fun f => (f.offset, C.P.cellsOf f.type))[i]?) = fun i => fs[i]? := by
          funext j; rw [h5]; simp
        simp only [Instr.build, Sem.run_bind, run_zeroValue' h1 h3, Result.andThen_ok, run_underlying' h2, run_places fds h4]
        rw [hpl, k1]
        simp
      · cases h
    · cases h
  · cases h

/-- A new row. -/
theorem good_row {id : Nat} {et : TypeId} {sz : Nat} {xs : List AV} {v : Value} {w2 : World} {s : Sem Value} {ids : List Nat} (hI : Inv Q w M ρ G nx) (hid : ρ id = none) (hlt : id < nx) (h0 : 0 < sz)
    {cs : List Value} (hown : w2.ownsRow 0 et sz v xs.length cs) (hfit : ∀ x ∈ xs, x.fits sz = true)
    (hcell : ∀ (i : Nat) x (j : Nat) y, xs[i]? = some x → x.cells[j]? = some y → VA M ρ G y (cs.getD (i * sz + j) Go.undef))
    (hnew : ∀ b, blk v = some b → w.heap.size ≤ b) (hw : WS Q w w2) (hold : ∀ b, b < w.heap.size → w2.heap[b]? = w.heap[b]?) (hs : s.run P w = .ok v w2) :
    Good id Q M ρ G nx w (updL G [(id, .set (.row et sz xs false))]) (.row id xs.length) ((vNext s).run P w) := by
  have hv : Ev M ρ G M (upd ρ id (some v)) (upd G id (.row et sz xs false)) := Ev.new hid
  refine ⟨_, _, _, M, upd ρ id (some v), run_vNext hs, .inl rfl, hv, ?_, ?_, hw, MQ.refl _ _, fun o h e => by simp [upd, h, e]⟩
  · refine hI.put hlt hv (fun b => ?_) hw.size ?_ (fun b hb => .inl (hnew b hb))
    · rcases Nat.lt_or_ge b w.heap.size with h | h
      · exact .inl (hold b h)
      · exact .inr (.inl h)
    · unfold ObjOK
      simp only [upd, if_true]
      exact ⟨h0, v, cs, rfl, hown, ⟨hfit, fun i x j y hx hy => (hcell i x j y hx hy).mono hv⟩, fun h => by cases h⟩
  · rcases hown.2 with ⟨rfl, h1⟩ | ⟨g, cap, cur, rfl, _⟩
    · exact .row id _ none 0 0 (by simp [upd]) fun et' sz' xs' fr' e => by
        simp only [updL, U.on, upd, if_true, Obj.row.injEq] at e
        obtain ⟨rfl, rfl, rfl, rfl⟩ := e
        exact ⟨Nat.le_refl _, fun _ => by simp [upd]⟩
    · exact .row id _ _ _ _ (by simp [upd]) fun et' sz' xs' fr' e => by
        simp only [updL, U.on, upd, if_true, Obj.row.injEq] at e
        obtain ⟨rfl, rfl, rfl, rfl⟩ := e
        exact ⟨Nat.le_refl _, fun _ => by simp [upd]⟩

/-- Elements, one behind the other. -/
def Elems (M : Mem) (ρ : Ref) (G : Nat → Obj) (sz : Nat) (xs : List AV) (cs : Array Value) : Prop :=
  cs.size = xs.length * sz ∧ (∀ x ∈ xs, x.fits sz = true) ∧ ∀ (i : Nat) x (j : Nat) y, xs[i]? = some x → x.cells[j]? = some y → VA M ρ G y (at_ cs (i * sz + j))

theorem mul_lt_of {i n sz j : Nat} (hi : i < n) (hj : j < sz) : i * sz + j < n * sz := by
  have : i * sz + sz ≤ n * sz := by rw [← Nat.succ_mul]; exact Nat.mul_le_mul_right _ hi
  omega

theorem at_madeCells (z : Array Value) (n k : Nat) (h : k < n) : at_ (madeCells z n) k = at_ z (k % z.size) ∨ z.size = 0 := by
  rcases Nat.eq_zero_or_pos z.size with h0 | h0
  · exact .inr h0
  · left
    have := Nat.mod_lt k h0
    simp [madeCells, at_, Array.getD_eq_getD_getElem?, h, this, getElem!_pos]

theorem Elems_made {z : AV} {zv : Value} {n sz : Nat} (hz : VL (VA M ρ G) z.cells zv.cells) (hf : z.fits sz = true) (h0 : 0 < sz) : Elems M ρ G sz (List.replicate n z) (madeCells zv.cells (n * sz)) := by
  have hl := AV.fits_len hf
  have hzs : zv.cells.size = sz := by rw [← hz.1]; exact hl
  refine ⟨by simp [size_madeCells], fun x hx => by rw [List.eq_of_mem_replicate hx]; exact hf, fun i x j y hx hy => ?_⟩
  obtain ⟨hi, hx⟩ := List.getElem?_eq_some_iff.1 hx
  simp at hi hx
  subst hx
  have hj := (List.getElem?_eq_some_iff.1 hy).1
  rcases at_madeCells zv.cells (n * sz) (i * sz + j) (mul_lt_of hi (by omega)) with h | h
  · rw [h, hzs]
    have : (i * sz + j) % sz = j := by rw [Nat.mul_comm, Nat.mul_add_mod]; exact Nat.mod_eq_of_lt (by omega)
    rw [this]
    exact hz.2 j y hy
  · omega

theorem fillE_ok {sz len : Nat} (_h0 : 0 < sz) : ∀ (ps : List (Nat × AV)) (qs : List (Nat × Value)) (xs : List AV) (vs : Array Value), Parts M ρ G ps qs → ps.all (fun p => p.2.fits sz && decide (p.1 < len)) = true → xs.length = len →
    Elems M ρ G sz xs vs → ∃ vs', Instr.fill (fun i => some (i * sz, sz)) vs qs = some vs' ∧ (fillE xs ps).length = len ∧ Elems M ρ G sz (fillE xs ps) vs' := by
  intro ps
  induction ps with
  | nil =>
    intro qs xs vs hp _ hlen hE
    cases qs with
    | nil => exact ⟨vs, rfl, hlen, hE⟩
    | cons q qs => simp [Parts] at hp
  | cons p ps ih =>
    intro qs xs vs hp hall hlen hE
    cases qs with
    | nil => simp [Parts] at hp
    | cons q qs =>
      obtain ⟨i, x⟩ := p
      obtain ⟨i', c⟩ := q
      obtain ⟨rfl, hx⟩ := hp.2 0 (i, x) (i', c) rfl rfl
      simp only at hx
      simp only [List.all_cons, Bool.and_eq_true, decide_eq_true_eq] at hall
      obtain ⟨⟨hf, hi⟩, hall⟩ := hall
      obtain ⟨e1, e2, e3⟩ := hE
      have hcell := hx.cells hf
      have hn := AV.fits_len hf
      have hcs : c.cells.size = sz := by rw [← hcell.1]; exact hn
      have hfit : i * sz + sz ≤ xs.length * sz := by rw [← Nat.succ_mul]; exact Nat.mul_le_mul_right _ (by omega)
      obtain ⟨g1, g2⟩ := fold_set (i * sz) c.cells.toList 0 vs (by simp; omega)
      have hfold : (c.cells.zipIdx.foldl (fun (cs : Array Value) (p : Value × Nat) => cs.setIfInBounds (i * sz + p.2) p.1) vs) = (c.cells.toList.zipIdx 0).foldl (fun cs p => cs.setIfInBounds (i * sz + p.2) p.1) vs := by
        rw [← Array.foldl_toList]; simp
      have hnew : Elems M ρ G sz (xs.set i x) ((c.cells.toList.zipIdx 0).foldl (fun cs p => cs.setIfInBounds (i * sz + p.2) p.1) vs) := by
        refine ⟨by rw [g1]; simpa using e1, fun y hy => ?_, fun k y j u hy hu => ?_⟩
        · rcases List.mem_or_eq_of_mem_set hy with h | rfl
          · exact e2 y h
          · exact hf
        · rw [g2]
          rw [List.getElem?_set] at hy
          by_cases hk : i = k
          · subst hk
            rw [if_pos rfl] at hy
            split at hy
            · cases hy
              have hj := (List.getElem?_eq_some_iff.1 hu).1
              rw [if_pos (by simp; omega)]
              have := hcell.2 j u hu
              rw [← at_list] at this
              simpa using this
            · cases hy
          · rw [if_neg hk] at hy
            have hj := (List.getElem?_eq_some_iff.1 hu).1
            have hyl := AV.fits_len (e2 y (List.mem_of_getElem? hy))
            rw [if_neg]
            · exact e3 k y j u hy hu
            · simp
              intro h1
              rcases Nat.lt_or_ge k i with h2 | h2
              · have : k * sz + sz ≤ i * sz := by rw [← Nat.succ_mul]; exact Nat.mul_le_mul_right _ h2
                omega
              · have : i * sz + sz ≤ k * sz := by rw [← Nat.succ_mul]; exact Nat.mul_le_mul_right _ (by omega)
                omega
      obtain ⟨vs', k1, k2, k3⟩ := ih qs (xs.set i x) _ hp.tail hall (by simpa using hlen) hnew
      refine ⟨vs', ?_, k2, k3⟩
      simp only [Instr.fill]
      rw [if_neg (by simp; omega), ← k1]
      congr 1

theorem Elems.getD {sz : Nat} {xs : List AV} {cs : Array Value} (h : Elems M ρ G sz xs cs) (i : Nat) x (j : Nat) y (hx : xs[i]? = some x) (hy : x.cells[j]? = some y) : VA M ρ G y (cs.toList.getD (i * sz + j) Go.undef) := by
  rw [at_list]; exact h.2.2 i x j y hx hy

theorem aBuildSlice_ok {id : Nat} {t : TypeId} {len : Nat} {ps : List (Nat × AV)} {qs : Array (Nat × Value)} {v : AV} {ups : List (Nat × U)} (h : aBuildSlice C id t len ps = some (.val v ups))
    (hI : Inv Q w M ρ G nx) (hid : ρ id = none) (hlt : id < nx) (hp : Parts M ρ G ps qs.toList) : Good id Q M ρ G nx w (updL G ups) v ((vNext (Instr.buildSlice t len qs)).run C.P w) := by
  unfold aBuildSlice at h
  split at h
  · rename_i k hk
    split at h
    · rename_i et hd
      split at h
      · rename_i i hi
        split at h
        · rename_i hc
          obtain ⟨c1, c2, c3, c4⟩ := hc
          cases h
          obtain ⟨info, zv, d, h1, h2, h3, h4, h5, h6, h7, h8⟩ := tyOf_some hk
          rw [hd] at h5
          cases d <;> simp only [tyd, reduceCtorEq, TyD.sl.injEq] at h5
          subst h5
          obtain ⟨info', zv', d', k1, k2, k3, k4, k5, k6, k7, k8⟩ := tyOf_some hi
          have hz := (cells_cv (M := M) (ρ := ρ) (G := G) zv').2
          rw [← k8] at hz
          have hE := Elems_made (n := len) hz c2 c4
          obtain ⟨vs', f1, f2, f3⟩ := fillE_ok (len := len) c4 ps qs.toList _ _ hp c3 (List.length_replicate ..) hE
          have hlen : ∀ m : Nat, m = (fillE (List.replicate len i.zero) ps).length → AV.row id len = AV.row id m := fun m hm => by rw [hm, f2]
          rw [hlen _ rfl]
          refine good_row (w2 := w.alloc (.cells vs' et)) (v := .slice (some ⟨w.heap.size, 0, none⟩) len len) (cs := vs'.toList) (ids := []) hI hid hlt c4 ?_ f3.2.1 f3.getD ?_ (WS.alloc hI.new _) (fun b hb => Go.RowKit.Below.heap_alloc w _ b hb) ?_
          · rw [f2]
            have hvs : vs'.size = len * i.sz := by rw [f3.1, f2]
            refine ⟨by simpa using hvs, .inr ⟨w.heap.size, len, vs', rfl, Nat.zero_le _, heap_alloc_new w _, Nat.le_refl _, ?_, hvs, List.take_of_length_le (by rw [Array.length_toList]; omega)⟩⟩
            have : len ≤ len * i.sz := Nat.le_mul_of_pos_right _ c4
            unfold maxLen; omega
          · intro b hb; simp [blk] at hb; omega
          · have hzero : (if len * i.sz = 0 then (pure #[] : Sem (Array Value)) else do pure (← zeroValue et).cells).run C.P w = .ok (if len * i.sz = 0 then #[] else zv'.cells) w := by
              split
              · rfl
              · simp [run_zeroValue' k1 k3]
            have hmade : (Array.range (len * i.sz)).map (fun x => (if len * i.sz = 0 then #[] else zv'.cells)[x % (if len * i.sz = 0 then (#[] : Array Value) else zv'.cells).size]!) = madeCells zv'.cells (len * i.sz) := by
              unfold madeCells
              split
              · rename_i h; rw [h]; simp
              · rfl
            have hsz : info'.size = i.sz := k6.symm
            simp only [Instr.buildSlice, Sem.run_bind, run_underlying' h2, Result.andThen_ok, run_sizeOf' k1, hsz]
            rw [if_neg (by omega)]
            by_cases h00 : len * i.sz = 0
            · rw [if_pos h00] at hmade ⊢
              simp only [h00] at hmade
              simp only [pure_bind]
              have e0 : ((Array.range (len * i.sz)).map fun x => (#[] : Array Value)[x % (#[] : Array Value).size]!) = madeCells zv'.cells (len * i.sz) := by rw [h00]; simp [madeCells]
              rw [e0, f1]
              simp [newRow]
            · rw [if_neg h00]
              simp only [Sem.run_bind, run_zeroValue' k1 k3, Result.andThen_ok, Sem.run_pure]
              rw [show ((Array.range (len * i.sz)).map fun x => zv'.cells[x % zv'.cells.size]!) = madeCells zv'.cells (len * i.sz) from rfl, f1]
              simp [newRow]
        · cases h
      · cases h
    · cases h
  · cases h

theorem aMakeSlice_ok {id : Nat} {t : TypeId} {len cap : AV} {cl cc : Value} {v : AV} {ups : List (Nat × U)} (h : aMakeSlice C id t len cap = some (.val v ups))
    (hI : Inv Q w M ρ G nx) (hid : ρ id = none) (hlt : id < nx) (hl : VA M ρ G len cl) (hcp : VA M ρ G cap cc) : Good id Q M ρ G nx w (updL G ups) v ((vNext (Instr.makeSlice t cl cc)).run C.P w) := by
  unfold aMakeSlice at h
  split at h
  · rename_i k hk
    split at h
    · rename_i et hd
      split at h
      · rename_i i kl l kc c hi
        split at h
        · rename_i hc
          obtain ⟨c1, c2, c3, c4, c5, c6⟩ := hc
          cases h
          obtain rfl := hl.int_inv
          obtain rfl := hcp.int_inv
          obtain ⟨info, zv, d, h1, h2, h3, h4, h5, h6, h7, h8⟩ := tyOf_some hk
          rw [hd] at h5
          cases d <;> simp only [tyd, reduceCtorEq, TyD.sl.injEq] at h5
          subst h5
          obtain ⟨info', zv', d', k1, k2, k3, k4, k5, k6, k7, k8⟩ := tyOf_some hi
          have hz := (cells_cv (M := M) (ρ := ρ) (G := G) zv').2
          rw [← k8] at hz
          have hE := Elems_made (n := c.toNat) hz c5 c6
          unfold most at c3
          have hrun := run_make (P := C.P) w t et info' zv' h2 k1 k3 kl kc l c c1 c2 (by rw [← k7]; calc (i.bytes : Int) * c ≤ 4096 * c := Int.mul_le_mul_of_nonneg_right (by omega) (by omega)
                _ ≤ 281474976710656 := by omega) (by omega)
          rw [← k6] at hrun
          have e1 : (List.replicate l.toNat i.zero).length = l.toNat := by simp
          have hrow := good_row (w2 := w.alloc (.cells (madeCells zv'.cells (c.toNat * i.sz)) et)) (v := .slice (some ⟨w.heap.size, 0, none⟩) l.toNat c.toNat) (xs := List.replicate l.toNat i.zero) (et := et) (sz := i.sz)
            (cs := (madeCells zv'.cells (c.toNat * i.sz)).toList.take (l.toNat * i.sz)) (ids := []) (s := Instr.makeSlice t (.int kl l) (.int kc c)) (P := C.P) hI hid hlt c6 ?_ (fun x hx => by rw [List.eq_of_mem_replicate hx]; exact c5) ?_ ?_ (WS.alloc hI.new _) (fun b hb => Go.RowKit.Below.heap_alloc w _ b hb) hrun
          · rw [e1] at hrow; exact hrow
          · rw [e1]
            have hle : l.toNat * i.sz ≤ c.toNat * i.sz := Nat.mul_le_mul_right _ (by omega)
            refine ⟨by rw [List.length_take, Array.length_toList, size_madeCells]; exact Nat.min_eq_left hle, .inr ⟨w.heap.size, c.toNat, _, rfl, Nat.zero_le _, heap_alloc_new w _, by omega, by unfold maxLen; omega, size_madeCells _ _, rfl⟩⟩
          · intro a x j y hx hy
            obtain ⟨ha, hx'⟩ := List.getElem?_eq_some_iff.1 hx
            rw [List.length_replicate] at ha
            rw [List.getElem_replicate] at hx'
            subst hx'
            have hj := (List.getElem?_eq_some_iff.1 hy).1
            have hzl := AV.fits_len c5
            rw [list_getD_take (mul_lt_of ha (by omega)), at_list]
            exact hE.2.2 a i.zero j y (by rw [List.getElem?_replicate, if_pos (by omega)]) hy
          · intro b hb; simp [blk] at hb; omega
        · cases h
      · cases h
    · cases h
  · cases h

end Go.Abs
