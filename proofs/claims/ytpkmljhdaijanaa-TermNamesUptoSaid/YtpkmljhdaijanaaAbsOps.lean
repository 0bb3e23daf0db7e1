/- The abstract interpreter: operations. -/
import Derived.Test.YtpkmljhdaijanaaAbsLoad
import Derived.Laws.MakeOwn
namespace Go.Abs

variable {id : Nat}
variable {M M' : Mem} {ρ ρ' : Ref} {G G' : Nat → Obj} {w w' : World} {nx : Nat} {Q : Nat → Prop} {P : Program} {C : Cfg}

/-- Memory that comes not to change is new, or was the frame's own. -/
def MQ (Q : Nat → Prop) (M M' : Mem) : Prop := ∀ b, M' b ≠ none → M b ≠ none ∨ Q b

theorem MQ.refl (Q : Nat → Prop) (M : Mem) : MQ Q M M := fun _ h => .inl h
theorem MQ.trans {A B D : Mem} (h : MQ Q A B) (k : MQ Q B D) : MQ Q A D := fun b hb => (k b hb).elim (h b) .inr

/-- What an operation comes to. -/
def Good (id : Nat) (Q : Nat → Prop) (M : Mem) (ρ : Ref) (G : Nat → Obj) (nx : Nat) (w : World) (G' : Nat → Obj) (v : AV) (r : Result Next) : Prop :=
  ∃ nxt c w' M' ρ', r = .ok nxt w' ∧ (nxt = .value c ∨ nxt = .skip ∧ c = Go.undef) ∧ Ev M ρ G M' ρ' G' ∧ Inv Q w' M' ρ' G' nx ∧ VA M' ρ' G' v c ∧ WS Q w w' ∧ MQ Q M M' ∧ ∀ o, o ≠ id → ρ o = none → ρ' o = none

theorem Good.pure {v : AV} {c : Value} {r : Result Next} (hI : Inv Q w M ρ G nx) (hr : r = .ok (.value c) w) (hv : VA M ρ G v c) : Good id Q M ρ G nx w G v r :=
  ⟨_, c, w, M, ρ, hr, .inl rfl, Ev.refl _ _ _, hI, hv, WS.refl _ _, MQ.refl _ _, fun _ _ e => e⟩

def vNext (s : Sem Value) : Sem Next := do pure (.value (← s))
def uNext (s : Sem Unit) : Sem Next := do s; pure .skip

theorem run_vNext {s : Sem Value} {c : Value} (h : s.run P w = .ok c w') : (vNext s).run P w = .ok (.value c) w' := by simp [vNext, h]
theorem run_uNext {s : Sem Unit} {u : Unit} (h : s.run P w = .ok u w') : (uNext s).run P w = .ok .skip w' := by simp [uNext, h]

/-- A new box. -/
theorem good_box {id : Nat} {cs : List AV} {vs : Array Value} {t : TypeId} (hI : Inv Q w M ρ G nx) (hid : ρ id = none) (hlt : id < nx) (hc : VL (VA M ρ G) cs vs) {s : Sem Value}
    (hs : s.run P w = .ok (.pointer (some ⟨w.heap.size, 0, none⟩)) (w.alloc (.cells vs t))) :
    Good id Q M ρ G nx w (updL G [(id, .set (.box cs false))]) (.ptr id 0) ((vNext s).run P w) := by
  have hv : Ev M ρ G M (upd ρ id (some (.pointer (some ⟨w.heap.size, 0, none⟩)))) (upd G id (.box cs false)) := Ev.new hid
  refine ⟨_, _, _, M, upd ρ id (some (.pointer (some ⟨w.heap.size, 0, none⟩))), run_vNext hs, .inl rfl, hv, ?_, ?_, WS.alloc hI.new _, MQ.refl _ _, fun o h e => by simp [upd, h, e]⟩
  · refine hI.put hlt hv (fun b => ?_) (by simp) ?_ (fun b hb => ?_)
    · rcases Nat.lt_or_ge b w.heap.size with h | h
      · exact .inl (Go.RowKit.Below.heap_alloc w _ b h)
      · exact .inr (.inl h)
    · unfold ObjOK
      simp only [upd, if_true]
      exact ⟨w.heap.size, vs, t, rfl, heap_alloc_new w _, hc.imp fun _ _ => VA.mono hv, fun h => by cases h⟩
    · simp [blk] at hb; exact .inl (by omega)
  · exact .ptr id 0 w.heap.size (by simp [upd])

theorem aAlloc_ok {id : Nat} {t : TypeId} {v : AV} {ups : List (Nat × U)} (h : aAlloc C id t = some (.val v ups)) (hI : Inv Q w M ρ G nx) (hid : ρ id = none) (hlt : id < nx) :
    Good id Q M ρ G nx w (updL G ups) v ((vNext (Instr.alloc t true (.tuple #[]))).run C.P w) := by
  unfold aAlloc at h
  split at h
  · rename_i i hi
    split at h
    · cases h
      obtain ⟨info, zv, d, h1, h2, h3, _, h4, h5, h6, h7⟩ := tyOf_some hi
      rw [h7]
      exact good_box (t := t) hI hid hlt (cells_cv zv).2 (by simp [Instr.alloc, run_zeroValue' h1 h3, newVar, newRow])
    · cases h
  · cases h

theorem aBox_ok {id : Nat} {t : TypeId} {x v : AV} {c : Value} {ups : List (Nat × U)} (h : aBox C id t x = some (.val v ups)) (hI : Inv Q w M ρ G nx) (hid : ρ id = none) (hlt : id < nx) (hx : VA M ρ G x c) :
    Good id Q M ρ G nx w (updL G ups) v ((vNext (Instr.box t c)).run C.P w) := by
  unfold aBox at h
  split at h
  · rename_i i hi
    split at h
    · rename_i hf
      cases h
      exact good_box (t := t) hI hid hlt (hx.cells hf) (by simp [Instr.box, newVar, newRow])
    · cases h
  · cases h

end Go.Abs
