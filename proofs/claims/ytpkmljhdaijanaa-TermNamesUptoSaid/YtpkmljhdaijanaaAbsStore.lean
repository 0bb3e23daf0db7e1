/- The abstract interpreter: writing. -/
import Derived.Test.YtpkmljhdaijanaaAbsBuild
namespace Go.Abs

variable {id : Nat}
variable {M M' : Mem} {ρ ρ' : Ref} {G G' : Nat → Obj} {w w' : World} {nx : Nat} {Q : Nat → Prop} {P : Program} {C : Cfg}

theorem setRow_other (w : World) (g k : Nat) (cs : Array Value) (h : k ≠ g) : (w.setRow g cs).heap[k]? = w.heap[k]? := by
  simp only [World.setRow, Array.getElem?_modify]
  rw [if_neg (fun e => h e.symm)]

theorem WS.setRow {b : Nat} (hb : Q b) (cs : Array Value) : WS Q w (w.setRow b cs) :=
  ⟨rfl, rfl, rfl, by simp, fun k hk => setRow_other w b k cs (fun e => hk (e ▸ hb))⟩

/-- An object is written where it lies. -/
theorem good_set {q b : Nat} {r : Value} {x : Obj} {w2 : World} {nxt : Next} {c : Value} {v : AV} {s : Result Next} (hI : Inv Q w M ρ G nx) (hr : ρ q = some r) (hb : blk r = some b)
    (hl : (G q).live = true) (hf : (G q).frozen = false) (hrow : ∀ et sz xs fr, x = .row et sz xs fr → ∃ xs0 fr0, G q = .row et sz xs0 fr0 ∧ xs0.length = xs.length)
    (hw : WS Q w w2) (hold : ∀ k, k ≠ b → w2.heap[k]? = w.heap[k]?)
    (hx : Ev M ρ G M ρ (upd G q x) → ObjOK w2 M ρ (upd G q x) q) (hv : Ev M ρ G M ρ (upd G q x) → VA M ρ (upd G q x) v c) (hs : s = .ok nxt w2) (hn : nxt = .value c ∨ nxt = .skip ∧ c = Go.undef) :
    Good id Q M ρ G nx w (updL G [(q, .set x)]) v s := by
  have e : upd ρ q (some r) = ρ := by funext o; by_cases h : o = q <;> simp [upd, h, hr]
  have hE : Ev M ρ G M ρ (upd G q x) := by have := Ev.same (M := M) (x := x) hr hrow; rwa [e] at this
  have hq : q < nx := by
    rcases Nat.lt_or_ge q nx with h | h
    · exact h
    · rw [hI.free q h] at hr; cases hr
  refine ⟨nxt, c, w2, M, ρ, hs, hn, hE, ?_, hv hE, hw, MQ.refl _ _, fun _ _ e => e⟩
  have := hI.put (q := q) (x := x) (r := r) (w' := w2) hq (by rw [e]; exact hE) (fun k => ?_) hw.size (by rw [e]; exact hx hE) (fun k hk => ?_)
  · rwa [e] at this
  · by_cases hk : k = b
    · exact .inr (.inr ⟨hl, hf, r, hr, by rw [hk]; exact hb⟩)
    · exact .inl (hold k hk)
  · exact .inr ⟨hl, hf, r, hr, hk⟩

theorem run_storeVar {t : TypeId} {info : TypeInfo} {c : Value} {b off : Nat} {cur : Array Value} {e : TypeId} (h1 : P.info? t = some info) (hsz : c.cells.size = info.size) (hg : w.heap[b]? = some (.cells cur e (0, 0)))
    (hfit : off + info.size ≤ cur.size) (hone : ∀ v ∈ c.cells, v.oneCell' = true) :
    (storeVar t ⟨b, off, none⟩ c).run P w = .ok () (w.setRow b (splice cur.toList off c.cells.toList).toArray) := by
  have := run_storeCells_at P b off e c.cells.toList 0 cur w hg (by simp; omega) (fun v hv => hone v (by simpa using hv))
  simp only [storeVar, Sem.run_bind, run_sizeOf' h1, Result.andThen_ok]
  rw [if_neg (by omega)]
  simp only [Nat.add_zero] at this
  rw [this]
  rfl

theorem VL_splice {cs : List AV} {vs : Array Value} {off : Nat} {new : List AV} {nv : Array Value} (h : VL (VA M ρ G) cs vs) (hn : VL (VA M ρ G) new nv) (hfit : off + new.length ≤ cs.length) :
    VL (VA M ρ G) (splice cs off new) (splice vs.toList off nv.toList).toArray := by
  have hl : off + nv.toList.length ≤ vs.toList.length := by simp; rw [← h.1, ← hn.1]; exact hfit
  refine ⟨by rw [splice_len _ _ _ hfit]; simp [splice_len _ _ _ hl]; exact h.1, fun i x hx => ?_⟩
  rw [splice_get _ _ _ hfit] at hx
  have ha : at_ (splice vs.toList off nv.toList).toArray i = (splice vs.toList off nv.toList).getD i Go.undef := by
    rw [← at_list]
  rw [ha, List.getD_eq_getElem?_getD, splice_get _ _ _ hl]
  have e2 : nv.toList.length = new.length := by simp; exact hn.1.symm
  rw [e2]
  split
  · rename_i hk
    rw [if_pos hk] at hx
    have := h.2 i x hx
    rw [← at_list, List.getD_eq_getElem?_getD] at this; exact this
  · rename_i hk
    rw [if_neg hk] at hx
    split
    · rename_i hk2
      rw [if_pos hk2] at hx
      have := hn.2 _ x hx
      rw [← at_list, List.getD_eq_getElem?_getD] at this; exact this
    · rename_i hk2
      rw [if_neg hk2] at hx
      have := h.2 i x hx
      rw [← at_list, List.getD_eq_getElem?_getD] at this; exact this

theorem one_cells {y : AV} (h : y.one = true) : y.cells = [y] := cells_one (fun l e => by subst e; simp [AV.one] at h) (fun l e => by subst e; simp [AV.one] at h)

theorem avOf_fits {y : AV} {sz off : Nat} {new : List AV} (hy : y.fits sz = true) (hl : off + new.length ≤ y.cells.length) (h0 : 0 < new.length) (hone : ∀ z ∈ new, z.one = true) :
    (avOf y (splice y.cells off new)).fits sz = true ∧ (avOf y (splice y.cells off new)).cells = splice y.cells off new := by
  have hlen := splice_len y.cells off new hl
  have hall : ∀ z ∈ splice y.cells off new, z.one = true := by
    intro z hz
    unfold splice at hz
    rcases List.mem_append.1 hz with hz | hz
    · rcases List.mem_append.1 hz with hz | hz
      · exact AV.fits_one hy z (List.mem_of_mem_take hz)
      · exact hone z hz
    · exact AV.fits_one hy z (List.mem_of_mem_drop hz)
  have hsz := AV.fits_len hy
  have key : (avOf y (splice y.cells off new)).cells = splice y.cells off new := by
    unfold avOf
    split
    · exact cells_mkAgg _
    · exact cells_mkAgg _
    · rename_i h1 h2
      have hc := cells_one h2 h1
      rw [hc] at hl ⊢
      simp at hl
      obtain ⟨rfl, hn⟩ : off = 0 ∧ new.length = 1 := by omega
      obtain ⟨z, rfl⟩ := List.length_eq_one_iff.1 hn
      simp only [splice, List.take_zero, List.nil_append, List.length_singleton, Nat.zero_add, List.drop_one, List.tail_cons, List.append_nil, List.headD_cons]
      exact one_cells (hone z (by simp))
  exact ⟨by simp only [AV.fits, key, Bool.and_eq_true, beq_iff_eq, List.all_eq_true]; exact ⟨by omega, hall⟩, key⟩

theorem aStore_ok {s : St} {t : TypeId} {a x v : AV} {ca cx : Value} {ups : List (Nat × U)} (h : aStore C s t a x = some (.val v ups)) (hI : Inv Q w M ρ s.G nx) (ha : VA M ρ s.G a ca) (hx : VA M ρ s.G x cx) :
    Good id Q M ρ s.G nx w (updL s.G ups) v ((uNext (Instr.storeAt t ca cx)).run C.P w) := by
  unfold aStore at h
  split at h
  · rename_i i hi
    split at h
    · rename_i hf
      obtain ⟨info, zv, d, h1, h2, h3, h4, h5, h6, h7, h8⟩ := tyOf_some hi
      have hc := hx.cells hf
      have hone := hc.one (AV.fits_one hf)
      have hn := AV.fits_len hf
      have hcs : cx.cells.size = info.size := by rw [← hc.1]; omega
      split at h
      · rename_i q off
        split at h
        · rename_i old hG
          split at h
          · rename_i hfit
            cases h
            cases ha with
            | ptr _ _ b hr =>
              have := hI.obj q
              unfold ObjOK at this
              rw [hG] at this
              obtain ⟨b', vs, e', g1, g2, g3, _⟩ := this
              rw [hr] at g1; cases g1
              have hown := hI.own q _ b (by rw [hG]; rfl) (by rw [hG]; rfl) hr rfl
              have hrun := run_storeVar (P := C.P) (w := w) (off := off) h1 hcs g2 (by rw [← g3.1]; omega) hone
              refine good_set hI hr rfl (by rw [hG]; rfl) (by rw [hG]; rfl) (fun _ _ _ _ e => by cases e) (WS.setRow hown.2 _) (fun k hk => setRow_other w b k _ hk) (fun hE => ?_) (fun _ => .undef _)
                (run_uNext (s := Instr.storeAt t _ cx) (by simp only [Instr.storeAt, Instr.sureAddr, pure_bind]; exact hrun)) (.inr ⟨rfl, rfl⟩)
              unfold ObjOK
              simp only [upd, if_true]
              exact ⟨b, _, e', hr, setRow_heap w b _ _ _ _ g2, (VL_splice g3 hc (by omega)).imp fun _ _ => VA.mono hE, fun h => by cases h⟩
          · cases h
        · cases h
      · rename_i q n j off
        split at h
        · rename_i et sz xs hG
          split at h
          · rename_i y hy
            split at h
            · rename_i hcnd
              obtain ⟨hxn, hpos, hfit⟩ := hcnd
              cases h
              cases ha with
              | rptr _ _ _ _ b f hb0 hr1 =>
                obtain ⟨_, hr2⟩ := hr1 et sz xs _ hG
                obtain ⟨l, cp, hr3, rfl⟩ := hr2 hxn.symm
                obtain ⟨rfl, h0, hle, hmx, cur, g1, g2, g3, g4⟩ := row_block hI hG hr3
                have hown := hI.own q _ b (by rw [hG]; rfl) (by rw [hG]; rfl) hr3 rfl
                have hyf := g3 y (List.mem_of_getElem? hy)
                have hyl := AV.fits_len hyf
                have hj := (List.getElem?_eq_some_iff.1 hy).1
                have hin : j * sz + sz ≤ xs.length * sz := by rw [← Nat.succ_mul]; exact Nat.mul_le_mul_right _ hj
                have hin2 : xs.length * sz ≤ cp * sz := Nat.mul_le_mul_right _ hle
                have hrun := run_storeVar (P := C.P) (w := w) (off := j * sz + off) h1 hcs g1 (by omega) hone
                have hspl : (splice cur.toList (j * sz + off) cx.cells.toList).length = cur.size := by
                  rw [splice_len _ _ _ (by rw [Array.length_toList, Array.length_toList, g2, ← hc.1]; omega)]; simp
                refine good_set hI hr3 rfl (by rw [hG]; rfl) (by rw [hG]; rfl) (fun _ _ _ _ e => by cases e; exact ⟨xs, _, hG, by simp⟩) (WS.setRow hown.2 _) (fun k hk => setRow_other w b k _ hk) (fun hE => ?_) (fun _ => .undef _)
                  (run_uNext (s := Instr.storeAt t _ cx) (by simp only [Instr.storeAt, Instr.sureAddr, pure_bind]; exact hrun)) (.inr ⟨rfl, rfl⟩)
                obtain ⟨hf1, hf2⟩ := avOf_fits (off := off) (new := x.cells) hyf (by omega) (by omega) (AV.fits_one hf)
                unfold ObjOK
                simp only [upd, if_true]
                refine ⟨h0, _, (splice cur.toList (j * sz + off) cx.cells.toList).take (xs.length * sz), hr3, ⟨by rw [List.length_take, hspl, g2, Nat.min_eq_left hin2, List.length_set], .inr ⟨b, cp, _, by simp, Nat.zero_le _, setRow_heap w b _ _ _ _ g1, by simpa using hle, hmx, by simp [hspl]; exact g2, by simp⟩⟩, ⟨?_, ?_⟩, fun h => by cases h⟩
                · intro z hz
                  rcases List.mem_or_eq_of_mem_set hz with h | rfl
                  · exact g3 z h
                  · exact hf1
                · intro k z m u hz hu
                  have hk : k < xs.length := by have := (List.getElem?_eq_some_iff.1 hz).1; simpa using this
                  have hzl : z.cells.length = sz := by
                    rcases List.mem_or_eq_of_mem_set (List.mem_of_getElem? hz) with h | rfl
                    · exact AV.fits_len (g3 z h)
                    · exact AV.fits_len hf1
                  have hm := (List.getElem?_eq_some_iff.1 hu).1
                  have hfit2 : j * sz + off + cx.cells.toList.length ≤ cur.toList.length := by rw [Array.length_toList, Array.length_toList, g2, ← hc.1]; omega
                  rw [list_getD_take (mul_lt_of hk (by omega)), List.getD_eq_getElem?_getD, splice_get _ _ _ hfit2]
                  have e2 : cx.cells.toList.length = x.cells.length := by simp; exact hc.1.symm
                  rw [e2]
                  rw [List.getElem?_set] at hz
                  by_cases hkj : j = k
                  · subst hkj
                    rw [if_pos rfl, if_pos hj] at hz
                    cases hz
                    rw [hf2, splice_get _ _ _ (by omega)] at hu
                    by_cases c1 : m < off
                    · rw [if_pos c1] at hu
                      rw [if_pos (by omega)]
                      have := g4 j y m u hy hu
                      rw [← at_list, List.getD_eq_getElem?_getD] at this
                      exact this.mono hE
                    · rw [if_neg c1] at hu
                      rw [if_neg (by omega)]
                      by_cases c2 : m < off + x.cells.length
                      · rw [if_pos c2] at hu
                        rw [if_pos (by omega)]
                        have := hc.2 (m - off) u hu
                        rw [← at_list, List.getD_eq_getElem?_getD] at this
                        rw [show j * sz + m - (j * sz + off) = m - off by omega]
                        exact this.mono hE
                      · rw [if_neg c2] at hu
                        rw [if_neg (by omega)]
                        have := g4 j y m u hy hu
                        rw [← at_list, List.getD_eq_getElem?_getD] at this
                        exact this.mono hE
                  · rw [if_neg hkj] at hz
                    have hcase : k * sz + m < j * sz + off ∨ j * sz + off + x.cells.length ≤ k * sz + m := by
                      rcases Nat.lt_or_ge k j with h2 | h2
                      · have : k * sz + sz ≤ j * sz := by rw [← Nat.succ_mul]; exact Nat.mul_le_mul_right _ h2
                        left; omega
                      · have : j * sz + sz ≤ k * sz := by rw [← Nat.succ_mul]; exact Nat.mul_le_mul_right _ (by omega)
                        right; omega
                    have := g4 k z m u hz hu
                    rw [← at_list, List.getD_eq_getElem?_getD] at this
                    rcases hcase with c1 | c1
                    · rw [if_pos c1]; exact this.mono hE
                    · rw [if_neg (by omega), if_neg (by omega)]; exact this.mono hE
            · cases h
          · cases h
        · cases h
      · cases h
    · cases h
  · cases h

end Go.Abs
