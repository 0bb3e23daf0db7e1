/- The abstract interpreter: operations of a region change places. -/
import Derived.Test.YtpkmljhdaijanaaAbsFoot
namespace Go.Abs

variable {G G' : Nat → Obj} {C : Cfg} {L : Low} {id : Nat} {s s' : St} {v : AV} {ups : List (Nat × U)}

theorem flatMap_same {α β : Type} {f g : α → List β} : ∀ {l : List α}, (∀ x ∈ l, f x = g x) → l.flatMap f = l.flatMap g
  | [], _ => rfl
  | x :: l, h => by simp only [List.flatMap_cons]; rw [h x (by simp), flatMap_same fun y hy => h y (by simp [hy])]

theorem readsOf_congr {o : Op} (hev : ∀ x ∈ o.operands, ev s'.tmps x = ev s.tmps x) (hrd : Same s.G s'.G (readsOf s o)) : readsOf s' o = readsOf s o := by
  unfold readsOf at hrd ⊢
  by_cases hp : pureOp o = true
  · simp only [hp, if_true]
  · simp only [hp, if_false, Bool.false_eq_true] at hrd ⊢
    have gen : o.operands.toList.flatMap (fun x => direct (ev s'.tmps x)) = o.operands.toList.flatMap (fun x => direct (ev s.tmps x)) := flatMap_same fun x hx => by rw [hev x (by simpa using hx)]
    cases o
    case call c =>
      obtain ⟨callee, args, ats⟩ := c
      simp only [Op.operands, Call.operands] at hev
      have eargs : args.toList.map (ev s'.tmps) = args.toList.map (ev s.tmps) := List.map_congr_left fun x hx => hev x (by simp; right; simpa using hx)
      cases callee with
      | builtin b => exact flatMap_same fun x hx => by rw [hev x (by simp; simpa using hx)]
      | value f =>
        simp only at hrd ⊢
        rw [hev f (by simp), eargs]
        split
        · rename_i k cap hfn
          rw [hfn] at hrd
          exact flatMap_same fun x hx => touch_congr _ _ (hrd.mono fun q hq => List.mem_flatMap.2 ⟨x, hx, hq⟩)
        · rfl
      | invoke r m => exact gen
    case slice t x lo hi mx =>
      simp only at hrd ⊢
      rw [hev x (by simp [Op.operands])]
      exact touch_congr _ _ hrd
    case store t a x => simp only; rw [hev a (by simp [Op.operands])]
    case mapUpdate t m k x => simp only; rw [hev m (by simp [Op.operands])]
    case insert t m k x => simp only; rw [hev m (by simp [Op.operands])]
    all_goals exact gen

/-! ### what is written -/
theorem updL_pt : ∀ (ups : List (Nat × U)) {G G' : Nat → Obj} {q : Nat}, G q = G' q → updL G ups q = updL G' ups q
  | [], _, _, _, h => h
  | (o, u) :: r, G, G', q, h => by
    simp only [updL]
    refine updL_pt r ?_
    by_cases hq : q = o
    · subst hq; simp [upd, h]
    · simp [upd, hq, h]

theorem updL_out : ∀ (ups : List (Nat × U)) {G : Nat → Obj} {q : Nat}, q ∉ wrOf ups → q ∉ fzOf ups → updL G ups q = G q
  | [], _, _, _, _ => rfl
  | (o, .set x) :: r, G, q, h1, h2 => by
    simp only [wrOf, fzOf, List.mem_cons, not_or] at h1 h2
    simp only [updL]
    rw [updL_out r h1.2 h2]
    simp [upd, h1.1]
  | (o, .frz) :: r, G, q, h1, h2 => by
    simp only [wrOf, fzOf, List.mem_cons, not_or] at h1 h2
    simp only [updL]
    rw [updL_out r h1 h2.2]
    simp [upd, h2.1]

theorem updL_frzd : ∀ (ups : List (Nat × U)) {G : Nat → Obj} {q : Nat}, q ∉ wrOf ups → q ∈ fzOf ups → updL G ups q = (G q).freeze
  | (o, .set x) :: r, G, q, h1, h2 => by
    simp only [wrOf, fzOf, List.mem_cons, not_or] at h1 h2
    simp only [updL]
    rw [updL_frzd r h1.2 h2]
    simp [upd, h1.1]
  | (o, .frz) :: r, G, q, h1, h2 => by
    simp only [wrOf, fzOf, List.mem_cons] at h1 h2
    simp only [updL]
    by_cases hr : q ∈ fzOf r
    · rw [updL_frzd r h1 hr]
      by_cases hq : q = o
      · subst hq; simp [upd, U.on, freeze_freeze]
      · simp [upd, hq]
    · rw [updL_out r h1 hr]
      have hq : q = o := by rcases h2 with h2 | h2
                            · exact h2
                            · exact absurd h2 hr
      subst hq; simp [upd, U.on]

/-- Where nothing is set: the same, but for what is frozen. -/
theorem updL_same (ups : List (Nat × U)) {G : Nat → Obj} {q : Nat} (h : q ∉ wrOf ups) : (updL G ups q).freeze = (G q).freeze := by
  by_cases hf : q ∈ fzOf ups
  · rw [updL_frzd ups h hf, freeze_freeze]
  · rw [updL_out ups h hf]

theorem updL_comm {a b : List (Nat × U)} (h1 : ∀ q ∈ wrOf a, q ∉ wrOf b ∧ q ∉ fzOf b) (h2 : ∀ q ∈ wrOf b, q ∉ wrOf a ∧ q ∉ fzOf a) (G : Nat → Obj) : updL (updL G a) b = updL (updL G b) a := by
  funext q
  by_cases ha : q ∈ wrOf a
  · rw [updL_out b (h1 q ha).1 (h1 q ha).2]
    exact updL_pt a (updL_out b (h1 q ha).1 (h1 q ha).2).symm
  · by_cases hb : q ∈ wrOf b
    · rw [updL_out a (h2 q hb).1 (h2 q hb).2]
      exact updL_pt b (updL_out a (h2 q hb).1 (h2 q hb).2)
    · by_cases fa : q ∈ fzOf a <;> by_cases fb : q ∈ fzOf b
      · rw [updL_frzd b hb fb, updL_frzd a ha fa, updL_frzd a ha fa, updL_frzd b hb fb]
      · rw [updL_out b hb fb, updL_frzd a ha fa, updL_frzd a ha fa, updL_out b hb fb]
      · rw [updL_frzd b hb fb, updL_out a ha fa, updL_out a ha fa, updL_frzd b hb fb]
      · rw [updL_out b hb fb, updL_out a ha fa, updL_out a ha fa, updL_out b hb fb]

/-! ### one operation -/
/-- What an operation of a region does: a value, and what it writes. -/
def StepIs (C : Cfg) (L : Low) (ops : Array Oper) (id : Nat) (o : Oper) (s : St) (v : AV) (ups : List (Nat × U)) (rd : List Nat) : Prop :=
  (wantA ops s.tmps o = some true ∧ opA C L id s o.op = some (.val v ups) ∧ rd = readsOf s o.op) ∨ (wantA ops s.tmps o = some false ∧ v = .imm (.tup []) ∧ ups = [] ∧ rd = [])

theorem stepD_some {nt : Nat} {ops : Array Oper} {base i : Nat} {o : Oper} {s s1 : St} {f : Fp} (h : stepD C L nt ops base i o s = some (s1, f)) :
    ∃ v ups rd, f = ⟨i, rd, wrOf ups, fzOf ups⟩ ∧ put nt { s with G := updL s.G ups } o.dst v = some s1 ∧ StepIs C L ops (base + i) o s v ups rd := by
  unfold stepD at h
  split at h
  · rename_i hw
    split at h
    · rename_i v ups hop
      split at h
      · rename_i s' hp; cases h; exact ⟨v, ups, _, rfl, hp, .inl ⟨hw, hop, rfl⟩⟩
      · cases h
    · cases h
  · rename_i hw
    split at h
    · rename_i s' hp; cases h; exact ⟨.imm (.tup []), [], [], rfl, hp, .inr ⟨hw, rfl, rfl, rfl⟩⟩
    · cases h
  · cases h

theorem stepD_of {nt : Nat} {ops : Array Oper} {base i : Nat} {o : Oper} {s s1 : St} {rd : List Nat} (h : StepIs C L ops (base + i) o s v ups rd) (hp : put nt { s with G := updL s.G ups } o.dst v = some s1) :
    stepD C L nt ops base i o s = some (s1, ⟨i, rd, wrOf ups, fzOf ups⟩) := by
  unfold stepD
  rcases h with ⟨h1, h2, rfl⟩ | ⟨h1, rfl, rfl, rfl⟩
  · simp only [h1, h2, hp]
  · have hp : put nt s o.dst (.imm (.tup [])) = some s1 := hp
    simp only [h1, hp, wrOf, fzOf]

def updO (f : Nat → AV) : Option Nat → AV → Nat → AV
  | some d, v => upd f d v
  | none, _ => f

theorem put_some {nt : Nat} {s s1 : St} {dst : Option Nat} {v : AV} (h : put nt s dst v = some s1) : s1.G = s.G ∧ s1.nx = s.nx ∧ s1.defers = s.defers ∧ s1.pk = s.pk ∧ (∀ d, dst = some d → d < nt) ∧ s1.tmps = updO s.tmps dst v := by
  unfold put at h
  cases dst with
  | none => cases h; simp [updO]
  | some d =>
    simp only at h
    split at h
    · rename_i hd; cases h; exact ⟨rfl, rfl, rfl, rfl, fun d' e => by cases e; exact hd, rfl⟩
    · cases h

theorem put_of {nt : Nat} {s : St} {dst : Option Nat} {v : AV} (h : ∀ d, dst = some d → d < nt) : put nt s dst v = some { s with tmps := updO s.tmps dst v } := by
  unfold put
  cases dst with
  | none => rfl
  | some d => simp [h d rfl, updO]

theorem stepIs_congr {ops : Array Oper} {o : Oper} {rd : List Nat} (h : StepIs C L ops id o s v ups rd) (ht : ∀ t ∈ o.looksAt ops, s'.tmps t = s.tmps t) (hrd : Same s.G s'.G rd) (hwr : ∀ q ∈ wrOf ups, s'.G q = s.G q) (hpk : s'.pk = s.pk) :
    StepIs C L ops id o s' v ups rd := by
  have hev : ∀ x ∈ o.op.operands, ev s'.tmps x = ev s.tmps x := fun x hx => by
    cases x with
    | tmp t =>
      refine ht t (List.mem_append_left _ (List.mem_filterMap.2 ⟨.tmp t, by simpa using hx, rfl⟩))
    | _ => rfl
  have hw : wantA ops s'.tmps o = wantA ops s.tmps o := by
    unfold wantA
    cases hg : o.guard with
    | none => rfl
    | some p =>
      obtain ⟨j, want⟩ := p
      simp only
      cases hd : (ops[j]?).bind (·.dst) with
      | none => rfl
      | some d =>
        simp only
        rw [ht d (List.mem_append_right _ (by simp [hg, hd]))]
  rcases h with ⟨h1, h2, rfl⟩ | ⟨h1, rfl, rfl, rfl⟩
  · exact .inl ⟨hw.trans h1, opA_congr h2 hev hrd hwr hpk, (readsOf_congr hev hrd).symm⟩
  · exact .inr ⟨hw.trans h1, rfl, rfl, rfl⟩

theorem not_clash {a b : Fp} (h : clash a b = false) : (∀ q ∈ a.wr, q ∉ b.rd ∧ q ∉ b.wr ∧ q ∉ b.fz) ∧ (∀ q ∈ b.wr, q ∉ a.rd ∧ q ∉ a.fz) := by
  unfold clash at h
  simp only [Bool.or_eq_false_iff, List.any_eq_false, Bool.or_eq_true, List.contains_iff_mem, not_or, and_assoc] at h
  exact ⟨fun q hq => h.1 q hq, fun q hq => h.2 q hq⟩

/-- Two operations that keep out of each other's way change places. -/
theorem stepD_swap {nt : Nat} {ops : Array Oper} {base i j : Nat} {oi oj : Oper} {s s1 s2 : St} {fi fj : Fp} (h1 : stepD C L nt ops base i oi s = some (s1, fi)) (h2 : stepD C L nt ops base j oj s1 = some (s2, fj)) (hc : clash fi fj = false) (ha : oi.apart ops oj = true) :
    ∃ s1', stepD C L nt ops base j oj s = some (s1', fj) ∧ stepD C L nt ops base i oi s1' = some (s2, fi) := by
  obtain ⟨vi, ui, ri, rfl, pi, si⟩ := stepD_some h1
  obtain ⟨vj, uj, rj, rfl, pj, sj⟩ := stepD_some h2
  obtain ⟨c1, c2⟩ := not_clash hc
  simp only at c1 c2
  obtain ⟨a1, a2, a3⟩ := Oper.apart_spec ha
  obtain ⟨gi, ni, di, ki, li, ti⟩ := put_some pi
  obtain ⟨gj, nj, dj, kj, lj, tj⟩ := put_some pj
  simp only at gi ni di ki ti gj nj dj kj tj
  -- j, where i has not been
  have sj' : StepIs C L ops (base + j) oj s vj uj rj := by
    refine stepIs_congr sj (fun t ht => ?_) (fun q hq => ?_) (fun q hq => ?_) ki.symm
    · rw [ti]
      cases hd : oi.dst with
      | none => rfl
      | some d => simp only [updO, upd]; rw [if_neg (fun e : t = d => a1 d hd (by rw [← e]; exact ht))]
    · rw [gi]
      exact updL_same ui (fun e => (c1 q e).1 hq)
    · rw [gi, updL_out ui (fun e => (c1 q e).2.1 hq) (c2 q hq).2]
  have pj' := put_of (s := { s with G := updL s.G uj }) (v := vj) lj
  refine ⟨_, stepD_of sj' pj', ?_⟩
  have si' : StepIs C L ops (base + i) oi { { s with G := updL s.G uj } with tmps := updO s.tmps oj.dst vj } vi ui ri := by
    refine stepIs_congr si (fun t ht => ?_) (fun q hq => ?_) (fun q hq => ?_) rfl
    · cases hd : oj.dst with
      | none => rfl
      | some d => simp only [updO, upd]; rw [if_neg (fun e : t = d => a3 d hd (by rw [← e]; exact ht))]
    · exact (updL_same uj (fun e => (c2 q e).1 hq)).symm
    · exact updL_out uj (c1 q hq).2.1 (c1 q hq).2.2
  refine stepD_of si' ?_
  rw [put_of li]
  congr 1
  cases s2
  simp only at gj nj dj kj tj
  simp only [St.mk.injEq]
  subst gj nj dj kj tj
  refine ⟨?_, ?_, ni.symm, di.symm, ki.symm⟩
  · rw [ti]
    cases hi : oi.dst with
    | none => cases hj : oj.dst <;> rfl
    | some d =>
      cases hj : oj.dst with
      | none => rfl
      | some e =>
        simp only [updO]
        have hne : d ≠ e := fun x => a2 d hi (x ▸ hj)
        funext t
        simp only [upd]
        by_cases h1 : t = d <;> by_cases h2 : t = e <;> simp_all
  · rw [gi]
    exact (updL_comm (fun q hq => (c1 q hq).2) (fun q hq => ⟨fun e => (c1 q e).2.1 hq, (c2 q hq).2⟩) s.G).symm

end Go.Abs
