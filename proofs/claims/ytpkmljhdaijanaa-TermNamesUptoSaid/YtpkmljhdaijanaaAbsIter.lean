/- The abstract interpreter: walks over maps of at most one entry. -/
import Derived.Test.YtpkmljhdaijanaaAbsMap
import Derived.Test.YtpkmljhdaijanaaAbsStore
import Derived.Maps.RangeRun
namespace Go.Abs

variable {M M' : Mem} {ρ ρ' : Ref} {G G' : Nat → Obj} {w w' : World} {nx : Nat} {Q : Nat → Prop} {P : Program} {C : Cfg}

/-- A new block, and what it is. -/
theorem good_new {id : Nat} {x : Obj} {o : Go.Obj} (hI : Inv Q w M ρ G nx) (hid : ρ id = none) (hlt : id < nx) (_hrow : ∀ et sz xs fr, x ≠ .row et sz xs fr) {s : Sem Value}
    (hx : Ev M ρ G M (upd ρ id (some (.pointer (some ⟨w.heap.size, 0, none⟩)))) (upd G id x) → ObjOK (w.alloc o) M (upd ρ id (some (.pointer (some ⟨w.heap.size, 0, none⟩)))) (upd G id x) id)
    (hs : s.run P w = .ok (.pointer (some ⟨w.heap.size, 0, none⟩)) (w.alloc o)) :
    Good id Q M ρ G nx w (updL G [(id, .set x)]) (.ptr id 0) ((vNext s).run P w) := by
  have hv : Ev M ρ G M (upd ρ id (some (.pointer (some ⟨w.heap.size, 0, none⟩)))) (upd G id x) := Ev.new hid
  refine ⟨_, _, _, M, upd ρ id (some (.pointer (some ⟨w.heap.size, 0, none⟩))), run_vNext hs, .inl rfl, hv, ?_, ?_, WS.alloc hI.new _, MQ.refl _ _, fun o h e => by simp [upd, h, e]⟩
  · refine hI.put hlt hv (fun b => ?_) (by simp) (hx hv) (fun b hb => ?_)
    · rcases Nat.lt_or_ge b w.heap.size with h | h
      · exact .inl (Go.RowKit.Below.heap_alloc w _ b h)
      · exact .inr (.inl h)
    · simp [blk] at hb; exact .inl (by omega)
  · exact .ptr id 0 w.heap.size (by simp [upd])

theorem aRange_ok {id : Nat} {t : TypeId} {x v : AV} {c : Value} {ups : List (Nat × U)} (h : aRange C id t x = some (.val v ups)) (hI : Inv Q w M ρ G nx) (hid : ρ id = none) (hlt : id < nx) (hx : VA M ρ G x c) :
    Good id Q M ρ G nx w (updL G ups) v ((vNext (Instr.range t c)).run C.P w) := by
  unfold aRange at h
  split at h
  · rename_i i hi
    obtain ⟨info, zv, d, h1, h2, h3, h4, h5, h6, h7, h8⟩ := tyOf_some hi
    split at h
    · rename_i k e hd
      rw [hd] at h5
      cases d <;> simp only [tyd, reduceCtorEq, TyD.mp.injEq] at h5
      obtain ⟨rfl, rfl⟩ := h5
      split at h
      · cases h
        have hx := hx.imm_inv
        cases hx
        refine good_new hI hid hlt (fun _ _ _ _ e => by cases e) (fun _ => ?_) (run_range_nilMap w t _ _ h2)
        unfold ObjOK
        simp only [upd, if_true]
        exact ⟨w.heap.size, rfl, .inl ⟨heap_alloc_new w _, trivial⟩⟩
      · rename_i ks vs
        split at h
        · rename_i hle
          cases h
          have hx := hx.imm_inv
          cases hx with
          | fmp _ _ b es clk hM hk hv hks hvs hbn =>
            refine good_new hI hid hlt (fun _ _ _ _ e => by cases e) (fun _ => ?_) (run_range_map w t _ _ b es clk h2 (hI.mem _ _ hM))
            unfold ObjOK
            simp only [upd, if_true]
            exact ⟨w.heap.size, rfl, .inr ⟨b, es, clk, #[], heap_alloc_new w _, hM, hbn, hk, hv, by omega, hks, hvs, fun _ => rfl, fun e => by cases e⟩⟩
        · cases h
      · cases h
    · cases h
  · cases h

theorem run_next_nil_at {w : World} {r : Nat} {a b : Nat} {s : Array Nat} (hr : w.heap[r]? = some (.mapIter none a s b)) (ty : TypeId) : (Instr.next (.pointer (some ⟨r, 0, none⟩)) false ty).run P w = .ok (.tuple #[.bool false]) w := by
  simp only [Instr.next, getObj, Sem.run_bind, Sem.run, hr, Result.andThen]
  rfl

theorem size_one {es : Array MapEntry} (h : es.size = 1) : ∃ e, es = #[e] := by
  refine ⟨es[0], ?_⟩
  apply Array.ext
  · simpa using h
  · intro i h1 h2
    obtain rfl : i = 0 := by simp at h2; omega
    rfl

theorem VI_tup1 {b : Bool} : VI M (.tup [.bool b]) (.tuple #[.bool b]) := .tup _ _ rfl fun i x hx => by
  match i, hx with
  | 0, hx => simp at hx; subst hx; exact .bool _
  | i + 1, hx => simp at hx

theorem aNext_ok {s : St} {id : Nat} {x v : AV} {isStr : Bool} {c : Value} {ty : TypeId} {ups : List (Nat × U)} (h : aNext s x isStr = some (.val v ups)) (hI : Inv Q w M ρ s.G nx) (hx : VA M ρ s.G x c) :
    Good id Q M ρ s.G nx w (updL s.G ups) v ((vNext (Instr.next c isStr ty)).run C.P w) := by
  unfold aNext at h
  split at h
  · rename_i q
    cases hx with
    | ptr _ _ r hr =>
      have hobj := hI.obj q
      unfold ObjOK at hobj
      split at h
      · rename_i vs done hG
        cases h
        rw [hG] at hobj
        obtain ⟨r', h1, h2⟩ := hobj
        rw [hr] at h1; cases h1
        refine Good.pure hI (run_vNext (c := .tuple #[.bool false]) ?_) (.imm _ _ VI_tup1)
        rcases h2 with ⟨h2, _⟩ | ⟨bm, es, clk, seen, h2, h3, h4, h6, h7, h8, h9, h10, h11, h12⟩
        · exact run_next_nil_at h2 ty
        · have hes : es = #[] := Array.eq_empty_of_size_eq_zero (by simpa using h6.symm)
          rcases run_next_at (P := C.P) w ty r bm clk clk seen es clk h2 (hI.mem _ _ h3) h4.1 (Nat.le_refl _) with ⟨_, h⟩ | ⟨e, he, _⟩
          · exact h
          · subst hes; simp [leftOf] at he
      · rename_i ks vs hG
        cases h
        rw [hG] at hobj
        obtain ⟨r', h1, h2⟩ := hobj
        rw [hr] at h1; cases h1
        refine Good.pure hI (run_vNext (c := .tuple #[.bool false]) ?_) (.imm _ _ VI_tup1)
        rcases h2 with ⟨h2, _⟩ | ⟨bm, es, clk, seen, h2, h3, h4, h6, h7, h8, h9, h10, h11, h12⟩
        · exact run_next_nil_at h2 ty
        · obtain ⟨e0, rfl, rfl⟩ := h12 rfl
          rcases run_next_at (P := C.P) w ty r bm clk clk _ _ clk h2 (hI.mem _ _ h3) h4.1 (Nat.le_refl _) with ⟨_, h⟩ | ⟨e, he, _⟩
          · exact h
          · simp [leftOf] at he
      · rename_i k u hG
        cases h
        rw [hG] at hobj
        obtain ⟨r', h1, h2⟩ := hobj
        rw [hr] at h1; cases h1
        rcases h2 with ⟨_, h2⟩ | ⟨bm, es, clk, seen, h2, h3, h4, h6, h7, h8, h9, h10, h11, h12⟩
        · cases h2
        · obtain ⟨e0, rfl⟩ := size_one (by simpa using h6.symm)
          have hs := h11 rfl
          subst hs
          have hk := h9 0 k rfl
          have hu := h10 0 u rfl
          simp only [Array.getD_eq_getD_getElem?, List.getElem?_toArray, List.getElem?_cons_zero, Option.getD_some] at hk hu
          rcases run_next_at (P := C.P) w ty r bm clk clk #[] _ clk h2 (hI.mem _ _ h3) h4.1 (Nat.le_refl _) with ⟨h, _⟩ | ⟨e, he, w1, hw1, hrun⟩
          · simp [leftOf] at h
          · have hee : e = e0 := by simpa [leftOf] using he
            subst hee
            have hheap : w1.heap = w.heap := by rcases hw1 with rfl | rfl <;> rfl
            have hlt : r < w.heap.size := (Array.getElem?_eq_some_iff.1 h2).1
            have hown := hI.own q _ r (by rw [hG]; rfl) (by rw [hG]; rfl) hr rfl
            refine good_set hI hr rfl (by rw [hG]; rfl) (by rw [hG]; rfl) (fun _ _ _ _ e => by cases e) (w2 := ChangeMaps.setBlock w1 r (.mapIter (some bm) clk ((#[] : Array Nat).push e.born) clk)) ?_ (fun b hb => ?_) (fun hE => ?_) (fun hE => ?_) (run_vNext hrun) (.inl rfl)
            · refine ⟨?_, ?_, ?_, ?_, fun b hb => ?_⟩
              · rcases hw1 with rfl | rfl <;> rfl
              · rcases hw1 with rfl | rfl <;> rfl
              · rcases hw1 with rfl | rfl <;> rfl
              · simp [ChangeMaps.setBlock, hheap]
              · simp only [ChangeMaps.setBlock, hheap, Array.getElem?_setIfInBounds]
                rw [if_neg (fun e : r = b => hb (e ▸ hown.2))]
            · simp only [ChangeMaps.setBlock, hheap, Array.getElem?_setIfInBounds]
              rw [if_neg (fun e => hb e.symm)]
            · unfold ObjOK
              simp only [upd, if_true]
              refine ⟨r, hr, .inr ⟨bm, #[e], clk, #[e.born], ?_, h3, h4, rfl, rfl, by simp, h9, h10, (fun e => by cases e), fun _ => ⟨e, rfl, rfl⟩⟩⟩
              simp [ChangeMaps.setBlock, hheap, hlt]
            · refine .imm _ _ (.tup _ _ rfl fun i x hx => ?_)
              match i, hx with
              | 0, hx => simp at hx; subst hx; exact .bool _
              | 1, hx => simp at hx; subst hx; exact hk
              | 2, hx => simp at hx; subst hx; exact hu
              | i + 3, hx => simp at hx
      · cases h
  · cases h

theorem aEntry_ok {x v : AV} {c : Value} {ups : List (Nat × U)} (h : aEntry G x = some (.val v ups)) (hI : Inv Q w M ρ G nx) (hx : VA M ρ G x c) :
    ups = [] ∧ ∃ u, (Instr.entry c).run C.P w = .ok u w ∧ VA M ρ G v u := by
  unfold aEntry at h
  split at h
  · rename_i q
    cases hx with
    | ptr _ _ r hr =>
      have hobj := hI.obj q
      unfold ObjOK at hobj
      split at h
      · rename_i k u hG
        cases h
        rw [hG] at hobj
        obtain ⟨r', h1, h2⟩ := hobj
        rw [hr] at h1; cases h1
        rcases h2 with ⟨_, h2⟩ | ⟨bm, es, clk, seen, h2, h3, h4, h6, h7, h8, h9, h10, h11, h12⟩
        · cases h2
        · obtain ⟨e0, rfl, rfl⟩ := h12 rfl
          have hk := h9 0 k rfl
          have hu := h10 0 u rfl
          simp only [Array.getD_eq_getD_getElem?, List.getElem?_toArray, List.getElem?_cons_zero, Option.getD_some] at hk hu
          refine ⟨rfl, _, run_entry_at (P := C.P) w r bm clk #[] _ clk e0 h2 (hI.mem _ _ h3) (by simp) h4.2, .imm _ _ (.tup _ _ rfl fun i x hx => ?_)⟩
          match i, hx with
          | 0, hx => simp at hx; subst hx; exact hk
          | 1, hx => simp at hx; subst hx; exact hu
          | i + 2, hx => simp at hx
      · cases h
  · cases h

end Go.Abs
