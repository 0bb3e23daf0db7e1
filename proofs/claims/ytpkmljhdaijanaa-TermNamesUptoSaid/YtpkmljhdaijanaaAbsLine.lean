/- The abstract interpreter: a region's operations, one behind the other. -/
import Derived.Test.YtpkmljhdaijanaaAbsReg
namespace Go.Abs

variable {M M' M'' : Mem} {ρ ρ' ρ'' : Ref} {G G' G'' : Nat → Obj} {w w' w'' : World} {nx nx' : Nat} {Q Q' Q'' Q0 : Nat → Prop} {P : Program} {C : Cfg} {L : Low}
variable {nt : Nat} {b : Frame} {cs : List Frame} {k : List Item} {ops : Array Oper} {i : Nat} {rest : List Nat} {o : Oper} {id : Nat} {s s' : St} {a : Act}

theorem getD_some {arr : Array Value} {d : Nat} {v : Value} (h : arr.getD d Go.undef = v) (hv : v ≠ Go.undef) : arr[d]? = some v := by
  rw [Array.getD_eq_getD_getElem?] at h
  cases e : arr[d]? with
  | none => rw [e] at h; exact absurd h.symm hv
  | some u => rw [e] at h; simpa using h

theorem wantA_ok {t : Bool} (h : wantA ops s.tmps o = some t) (hT : TR M ρ G s.tmps a.tmps) : Region.wanted o (yielded ops a.tmps) = t := by
  unfold wantA at h
  unfold Region.wanted
  cases hg : o.guard with
  | none => rw [hg] at h; simp at h; simp [h]
  | some p =>
    obtain ⟨j, want⟩ := p
    rw [hg] at h
    simp only at h ⊢
    unfold yielded
    cases hd : (ops[j]?).bind (·.dst) with
    | none => rw [hd] at h; simp at h; subst h; rfl
    | some d =>
      rw [hd] at h
      simp only [Option.bind_some] at h ⊢
      have hv := hT d
      split at h
      · rename_i bb hb
        rw [hb] at hv
        have := hv.bool_inv
        rw [getD_some this (by simp [Go.undef])]
        simp only [Option.some.injEq] at h
        subst h
        simp only
        cases bb <;> cases want <;> rfl
      · rename_i hb
        rw [hb] at hv
        have hv := hv.imm_inv
        simp only [Option.some.injEq] at h
        subst h
        generalize hz : a.tmps.getD d Go.undef = z at hv
        cases hv with
        | tup _ vs hl _ =>
          have hne : ∀ bb, a.tmps[d]? ≠ some (.bool bb) := fun bb e => by
            rw [Array.getD_eq_getD_getElem?, e] at hz; simp at hz
          cases e : a.tmps[d]? with
          | none => rfl
          | some z' =>
            cases z' with
            | bool bb => exact absurd e (hne bb)
            | _ => rfl
      · cases h

theorem SR.put {dst : Option Nat} {v : AV} {c : Value} (h : SR nt Q0 Q w M ρ s a) (hp : put nt s dst v = some s') (hv : VA M ρ s.G v c) :
    SR nt Q0 Q w M ρ s' (a.put dst c) ∧ s'.G = s.G ∧ s'.nx = s.nx ∧ s'.pk = s.pk ∧ s'.defers = s.defers := by
  unfold Go.Abs.put at hp
  cases dst with
  | none => cases hp; exact ⟨h, rfl, rfl, rfl, rfl⟩
  | some d =>
    simp only at hp
    split at hp
    · rename_i hd
      cases hp
      refine ⟨⟨h.inv, fun t => ?_, by simpa [Act.put] using h.size, h.sub, h.dfr⟩, rfl, rfl, rfl, rfl⟩
      have hlt : d < a.tmps.size := by rw [h.size]; exact hd
      simp only [upd, Act.put]
      by_cases ht : t = d
      · subst ht
        simp [Array.getD_eq_getD_getElem?, hlt]
        exact hv
      · rw [if_neg ht]
        have := h.tmps t
        rw [Array.getD_eq_getD_getElem?] at this ⊢
        rw [Array.getElem?_setIfInBounds_ne (Ne.symm ht)]
        exact this
    · cases hp

/-- Where a piece of a frame's code comes to. -/
structure Goes (nt : Nat) (b : Frame) (cs : List Frame) (Q0 : Nat → Prop) (N : Nat → Prop) (Q : Nat → Prop) (w : World) (M : Mem) (ρ : Ref) (G0 : Nat → Obj) (nx0 : Nat) (s' : St) (a' : Act) (Q' : Nat → Prop) (w' : World) (M' : Mem) (ρ' : Ref) : Prop where
  tr : Tr N Q w M ρ G0 Q' w' M' ρ' s'.G
  nx : nx0 ≤ s'.nx
  sr : SR nt Q0 Q' w' M' ρ' s' a'
  pk : PkOK M' b cs s'.pk

theorem Goes.after {N N1 N2 : Nat → Prop} {G1 : Nat → Obj} {n0 n1 : Nat} {a' : Act} (t : Tr N1 Q w M ρ G Q' w' M' ρ' G1) (hn : n0 ≤ n1) (h : Goes nt b cs Q0 N2 Q' w' M' ρ' G1 n1 s' a' Q'' w'' M'' ρ'') (h1 : ∀ o, N1 o → N o) (h2 : ∀ o, N2 o → N o) :
    Goes nt b cs Q0 N Q w M ρ G n0 s' a' Q'' w'' M'' ρ'' := ⟨t.trans h.tr h1 h2, Nat.le_trans hn h.nx, h.sr, h.pk⟩

def LineEnd (P : Program) (nt : Nat) (b : Frame) (cs : List Frame) (k : List Item) (Q0 N Q : Nat → Prop) (w : World) (M : Mem) (ρ : Ref) (G0 : Nat → Obj) (nx0 : Nat) (m : Machine) : Out → Prop
  | .norm s' => ∃ a' Q' w' M' ρ', Goes nt b cs Q0 N Q w M ρ G0 nx0 s' a' Q' w' M' ρ' ∧ Steps P m (lone (b.atR a' k) (csM s'.pk cs) w')
  | .pan v s' => ∃ a' Q' w' M' ρ' todo x, Goes nt b cs Q0 N Q w M ρ G0 nx0 s' a' Q' w' M' ρ' ∧ VI M' v x ∧ Steps P m (lone { b.atR a' todo with mode := .panicking [{ v := x, recovered := false }] } (csM s'.pk cs) w')
  | _ => False

theorem LineEnd.after {N N1 N2 : Nat → Prop} {G1 : Nat → Obj} {n0 n1 : Nat} {m m1 : Machine} {out : Out} (t : Tr N1 Q w M ρ G Q' w' M' ρ' G1) (hn : n0 ≤ n1) (hs : Steps P m m1) (h : LineEnd P nt b cs k Q0 N2 Q' w' M' ρ' G1 n1 m1 out) (h1 : ∀ o, N1 o → N o) (h2 : ∀ o, N2 o → N o) :
    LineEnd P nt b cs k Q0 N Q w M ρ G n0 m out := by
  cases out with
  | norm s' => obtain ⟨a', Q', w', M', ρ', g, st⟩ := h; exact ⟨a', Q', w', M', ρ', g.after t hn h1 h2, hs.trans st⟩
  | pan v s' => obtain ⟨a', Q', w', M', ρ', todo, x, g, hx, st⟩ := h; exact ⟨a', Q', w', M', ρ', todo, x, g.after t hn h1 h2, hx, hs.trans st⟩
  | exit => exact h
  | ret => exact h

/-- One operation of a region. -/
theorem stepA_ok (hC : CfgOK C) (hL : CallOK C.P L) (hR : RoundOK C.P L) {out : Out} (h : stepA C L nt ops id o s = some out) (ho : ops[i]? = some o) (hS : SR nt Q0 Q w M ρ s a) (hpk : PkOK M b cs s.pk) (hid : ρ id = none) (hlt : id < s.nx) :
    LineEnd C.P nt b cs (.inRegion ops rest :: k) Q0 (fun o => o = id ∨ s.nx ≤ o) Q w M ρ s.G s.nx (lone (b.atR a (.inRegion ops (i :: rest) :: k)) (csM s.pk cs) w) out := by
  unfold stepA at h
  have fin : ∀ v s1 s', OpN C.P nt b cs k ops i rest o id Q0 Q w M ρ s a v s1 → Go.Abs.put nt s1 o.dst v = some s' →
      LineEnd C.P nt b cs (.inRegion ops rest :: k) Q0 (fun o => o = id ∨ s.nx ≤ o) Q w M ρ s.G s.nx (lone (b.atR a (.inRegion ops (i :: rest) :: k)) (csM s.pk cs) w) (.norm s') := by
    intro v s1 s' ⟨c, a1, Q', w', M', ρ', t, hn, ht, hS1, hv, hpk1, hst⟩ hp
    obtain ⟨hS2, e1, e2, e3, e4⟩ := hS1.put hp hv
    refine ⟨_, Q', w', M', ρ', ⟨by rw [e1]; exact t, by rw [e2]; exact hn, hS2, by rw [e3]; exact hpk1.mono t.ev.mem⟩, by rw [e3]; exact hst⟩
  split at h
  · rename_i hw
    have hw := wantA_ok hw hS.tmps
    split at h
    · rename_i v ups hop
      have := op_ok (k := k) (rest := rest) hC hL hR hop ho hw hS hpk hid hlt
      split at h
      · rename_i s' hp; cases h; exact fin v _ s' this hp
      · cases h
    · rename_i v s1 hop
      have := op_ok (k := k) (rest := rest) hC hL hR hop ho hw hS hpk hid hlt
      split at h
      · rename_i s' hp; cases h; exact fin v _ s' this hp
      · cases h
    · rename_i v s1 hop
      cases h
      obtain ⟨x, a1, todo, Q', w', M', ρ', t, hn, hS1, hx, hpk1, hst⟩ := op_ok (k := k) (rest := rest) hC hL hR hop ho hw hS hpk hid hlt
      exact ⟨a1, Q', w', M', ρ', todo, x, ⟨t, hn, hS1, hpk1.mono t.ev.mem⟩, hx, hst⟩
    · cases h
  · rename_i hw
    have hw := wantA_ok hw hS.tmps
    split at h
    · rename_i s' hp
      cases h
      refine fin (.imm (.tup [])) s s' ⟨Go.undef, a, Q, w, M, ρ, Tr.refl _ _ _ _ _ _, Nat.le_refl _, rfl, hS, ?_, hpk, .one ?_⟩ hp
      · exact .imm _ _ (.tup [] #[] rfl fun i x hx => by simp at hx)
      · have := stepR_op_skip (P := C.P) (b := b) (a := a) (k := k) (cs := csM s.pk cs) (w := w) (ops := ops) (i := i) (rest := rest) (by simp [ho, hw])
        rw [this, ho]; rfl
    · cases h
  · cases h

theorem runA_ok (hC : CfgOK C) (hL : CallOK C.P L) (hR : RoundOK C.P L) {base : Nat} : ∀ (l : List Nat) {s : St} {a : Act} {Q : Nat → Prop} {w : World} {M : Mem} {ρ : Ref} {out : Out}, runA C L nt ops base l s = some out → l.Nodup → (∀ i ∈ l, i < ops.size ∧ ρ (base + i) = none) →
    base + ops.size ≤ s.nx → SR nt Q0 Q w M ρ s a → PkOK M b cs s.pk → LineEnd C.P nt b cs k Q0 (base ≤ ·) Q w M ρ s.G s.nx (lone (b.atR a (.inRegion ops l :: k)) (csM s.pk cs) w) out
  | [], s, a, Q, w, M, ρ, out, h, hnd, hl, hn, hS, hpk => by
    cases h
    exact ⟨a, Q, w, M, ρ, ⟨Tr.refl _ _ _ _ _ _, Nat.le_refl _, hS, hpk⟩, .one stepR_region_end⟩
  | i :: r, s, a, Q, w, M, ρ, out, h, hnd, hl, hn, hS, hpk => by
    have hi := hl i (by simp)
    have ho : ops[i]? = some ops[i] := Array.getElem?_eq_getElem hi.1
    simp only [runA, ho] at h
    split at h
    · rename_i s1 h1
      obtain ⟨a1, Q1, w1, M1, ρ1, g, st⟩ := stepA_ok (k := k) (rest := r) hC hL hR h1 ho hS hpk hi.2 (by omega)
      have hnd' := List.nodup_cons.1 hnd
      have := runA_ok hC hL hR r h hnd'.2 (fun j hj => ⟨(hl j (by simp [hj])).1, g.tr.born _ (fun e => by
        rcases e with e | e
        · have : j = i := by omega
          subst this; exact hnd'.1 hj
        · have := (hl j (by simp [hj])).1; omega) (hl j (by simp [hj])).2⟩) (Nat.le_trans hn g.nx) g.sr g.pk
      exact LineEnd.after g.tr g.nx st this (fun o e => by rcases e with e | e <;> omega) (fun _ h => h)
    · rename_i x hx
      have := stepA_ok (k := k) (rest := r) hC hL hR h ho hS hpk hi.2 (by omega)
      cases out with
      | norm s1 => exact absurd h (hx s1)
      | pan v s1 =>
        obtain ⟨a', Q', w', M', ρ', todo, x, g, hx, st⟩ := this
        exact ⟨a', Q', w', M', ρ', todo, x, ⟨g.tr.weak (fun o e => by rcases e with e | e <;> omega), g.nx, g.sr, g.pk⟩, hx, st⟩
      | exit => exact this
      | ret => exact this

end Go.Abs
