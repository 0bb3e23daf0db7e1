/- The abstract interpreter: operations that fail in a region that draws its order. -/
import Derived.Test.YtpkmljhdaijanaaAbsSwap
import Derived.Test.YtpkmljhdaijanaaAbsSched
namespace Go.Abs

variable {G G' : Nat → Obj} {C : Cfg} {L : Low} {id : Nat} {s s' : St} {v : AV} {ups : List (Nat × U)}

theorem opA_pan {o : Op} {x : IV} {s1 : St} (h : opA C L id s o = some (.pan x s1)) (hp : panOK C s o = true) : s1 = s := by
  unfold opA at h
  cases o <;> simp only [panOK, Bool.false_eq_true] at hp
  case panic y => simp only at h; split at h <;> cases h; rfl
  case call c =>
    obtain ⟨callee, args, ats⟩ := c
    cases callee with
    | value f =>
      simp only at h hp
      split at hp
      · rename_i k cap hfn
        unfold aCall at h
        split at h
        · rename_i q hq; rw [hq] at hfn; cases hfn
        · rw [hfn] at h
          simp only at h
          unfold callA at h
          rw [if_neg (by simpa using hp)] at h
          (repeat' split at h) <;> first | (unfold give at h; (repeat' split at h) <;> cases h) | (cases h; done) | (cases h; rfl)
      · cases hp
    | _ => simp at hp

theorem opA_congr_pan {o : Op} {x : IV} {s1 : St} (h : opA C L id s o = some (.pan x s1)) (hp : panOK C s o = true) (hev : ∀ y ∈ o.operands, ev s'.tmps y = ev s.tmps y) (hrd : Same s.G s'.G (readsOf s o)) :
    opA C L id s' o = some (.pan x s') ∧ panOK C s' o = true := by
  unfold opA at h ⊢
  cases o <;> simp only [panOK, Bool.false_eq_true] at hp <;> simp only [Op.operands, Call.operands] at hev
  case panic y =>
    simp only at h ⊢
    rw [hev y (by simp)]
    split at h
    · cases h; exact ⟨rfl, rfl⟩
    · cases h
  case call c =>
    obtain ⟨callee, args, ats⟩ := c
    simp only at hev
    have eargs : args.toList.map (ev s'.tmps) = args.toList.map (ev s.tmps) := List.map_congr_left fun x hx => hev x (by simp; right; simpa using hx)
    cases callee with
    | value f =>
      simp only at h hp ⊢
      have ef := hev f (by simp)
      rw [eargs, ef]
      split at hp
      · rename_i k cap hfn
        refine ⟨?_, by simp only [panOK, ef, hfn]; exact hp⟩
        have hrd' : Same s.G s'.G ((args.toList.map (ev s.tmps) ++ cap).flatMap (touch s.G pkDepth)) := hrd.mono fun q hq => by simpa [readsOf, pureOp, hfn] using hq
        unfold aCall at h ⊢
        split at h
        · rename_i q hq; rw [hq] at hfn; cases hfn
        · rename_i hny
          rw [hfn] at h
          simp only at h
          have key : callA C L id s' k (args.toList.map (ev s.tmps) ++ cap) = some (.pan x s') := by
            unfold callA at h ⊢
            have hb : ¬ C.byref k = true := by simpa using hp
            rw [if_neg hb] at h ⊢
            split at h
            · cases h
            · rename_i ivs ids hpk
              have : peeks s'.G (args.toList.map (ev s.tmps) ++ cap) = some (ivs, ids) := peekL_congr (fun x hx z hz => peek_congr _ _ _ (hrd'.mono fun q hq => List.mem_flatMap.2 ⟨x, hx, hq⟩) hz) hpk
              rw [this]
              dsimp only
              split at h
              · unfold give at h; split at h <;> cases h
              · cases h
              · split at h
                · split at h
                  · unfold give at h; split at h <;> cases h
                  · cases h
                · split at h
                  · rename_i hsc; cases h; rw [if_pos hsc]
                  · cases h
                · cases h
          simp only [hfn]
          exact key
      · cases hp
    | _ => simp at hp

/-! ### changing places -/
variable {nt base i j : Nat} {ops : Array Oper} {o oi oj : Oper} {s1 s2 : St} {fi fj f : Fp} {p pi pj : Option IV}

theorem stepX_none : stepX C L nt ops base i o s = some (s1, f, none) ↔ stepD C L nt ops base i o s = some (s1, f) := by
  unfold stepX stepD
  cases wantA ops s.tmps o with
  | none => simp
  | some t =>
    cases t with
    | false =>
      simp only
      cases put nt s o.dst (.imm (.tup [])) <;> simp
    | true =>
      simp only
      cases opA C L (base + i) s o.op with
      | none => simp
      | some ef =>
        cases ef with
        | val v ups => simp only; cases put nt { s with G := updL s.G ups } o.dst v <;> simp
        | wr v s1 => simp
        | pan v s1 => simp only; split <;> simp

/-- An operation that panics. -/
def PanIs (C : Cfg) (L : Low) (ops : Array Oper) (id : Nat) (o : Oper) (s : St) (x : IV) (rd : List Nat) : Prop :=
  wantA ops s.tmps o = some true ∧ (∃ s1, opA C L id s o.op = some (.pan x s1)) ∧ panOK C s o.op = true ∧ rd = readsOf s o.op

theorem stepX_pan {x : IV} : stepX C L nt ops base i o s = some (s1, f, some x) ↔ s1 = s ∧ ∃ rd, f = ⟨i, rd, [], []⟩ ∧ PanIs C L ops (base + i) o s x rd := by
  unfold stepX PanIs
  cases hw : wantA ops s.tmps o with
  | none => simp
  | some t =>
    cases t with
    | false => simp only; cases put nt s o.dst (.imm (.tup [])) <;> simp
    | true =>
      simp only
      cases hop : opA C L (base + i) s o.op with
      | none => simp
      | some ef =>
        cases ef with
        | val v ups => simp only; cases put nt { s with G := updL s.G ups } o.dst v <;> simp
        | wr v s1 => simp
        | pan v s3 =>
          simp only
          by_cases hp : panOK C s o.op = true
          · simp only [hp, if_true, Option.some.injEq, Prod.mk.injEq, Ef.pan.injEq]
            constructor
            · rintro ⟨rfl, rfl, rfl⟩; exact ⟨rfl, _, rfl, trivial, ⟨s3, rfl, rfl⟩, trivial, rfl⟩
            · rintro ⟨rfl, rd, rfl, _, ⟨s4, rfl, _⟩, _, rfl⟩; exact ⟨rfl, rfl, rfl⟩
          · simp [hp]

theorem looks_ev (ht : ∀ t ∈ o.looksAt ops, s'.tmps t = s.tmps t) : (∀ x ∈ o.op.operands, ev s'.tmps x = ev s.tmps x) ∧ wantA ops s'.tmps o = wantA ops s.tmps o := by
  refine ⟨fun x hx => ?_, ?_⟩
  · cases x with
    | tmp t => exact ht t (List.mem_append_left _ (List.mem_filterMap.2 ⟨.tmp t, by simpa using hx, rfl⟩))
    | _ => rfl
  · unfold wantA
    cases hg : o.guard with
    | none => rfl
    | some p =>
      obtain ⟨j, want⟩ := p
      simp only
      cases hd : (ops[j]?).bind (·.dst) with
      | none => rfl
      | some d =>
        simp only
        rw [ht d (List.mem_append_right _ (by simp [hg, hd]))]

theorem panIs_congr {x : IV} {rd : List Nat} (h : PanIs C L ops id o s x rd) (ht : ∀ t ∈ o.looksAt ops, s'.tmps t = s.tmps t) (hrd : Same s.G s'.G rd) : PanIs C L ops id o s' x rd := by
  obtain ⟨h1, ⟨s1, h2⟩, h3, rfl⟩ := h
  obtain ⟨hev, hw⟩ := looks_ev ht
  obtain ⟨h4, h5⟩ := opA_congr_pan h2 h3 hev hrd
  exact ⟨hw.trans h1, ⟨s', h4⟩, h5, (readsOf_congr hev hrd).symm⟩

theorem stepX_swap (h1 : stepX C L nt ops base i oi s = some (s1, fi, pi)) (h2 : stepX C L nt ops base j oj s1 = some (s2, fj, pj)) (hc : clash fi fj = false) (ha : oi.apart ops oj = true) :
    ∃ s1', stepX C L nt ops base j oj s = some (s1', fj, pj) ∧ stepX C L nt ops base i oi s1' = some (s2, fi, pi) := by
  obtain ⟨c1, c2⟩ := not_clash hc
  obtain ⟨a1, a2, a3⟩ := Oper.apart_spec ha
  have upd_out : ∀ {t d : Nat} {f : Nat → AV} {v : AV}, t ≠ d → upd f d v t = f t := fun h => by simp [upd, h]
  cases pi with
  | some x =>
    obtain ⟨rfl, rd, rfl, hp⟩ := stepX_pan.1 h1
    refine ⟨s2, h2, stepX_pan.2 ?_⟩
    cases pj with
    | some y =>
      obtain ⟨rfl, _⟩ := stepX_pan.1 h2
      exact ⟨rfl, rd, rfl, hp⟩
    | none =>
      -- j has a value: i panics behind it as well; but then the state is that behind j
      obtain ⟨vj, uj, rj, rfl, pj, sj⟩ := stepD_some (stepX_none.1 h2)
      obtain ⟨gj, nj, dj, kj, lj, tj⟩ := put_some pj
      simp only at gj nj dj kj tj c1 c2
      refine ⟨rfl, rd, rfl, panIs_congr hp (fun t ht => ?_) (fun q hq => ?_)⟩
      · rw [tj]
        cases hd : oj.dst with
        | none => rfl
        | some d => exact upd_out (fun e => a3 d hd (by rw [← e]; exact ht))
      · rw [gj]
        exact (updL_same uj (fun e => (c2 q e).1 hq)).symm
  | none =>
    cases pj with
    | none =>
      obtain ⟨s1', h3, h4⟩ := stepD_swap (stepX_none.1 h1) (stepX_none.1 h2) hc ha
      exact ⟨s1', stepX_none.2 h3, stepX_none.2 h4⟩
    | some y =>
      obtain ⟨rfl, rd, rfl, hp⟩ := stepX_pan.1 h2
      obtain ⟨vi, ui, ri, rfl, pi, si⟩ := stepD_some (stepX_none.1 h1)
      obtain ⟨gi, ni, di, ki, li, ti⟩ := put_some pi
      simp only at gi ni di ki ti c1 c2
      refine ⟨s, stepX_pan.2 ⟨rfl, rd, rfl, panIs_congr hp (fun t ht => ?_) (fun q hq => ?_)⟩, h1⟩
      · rw [ti]
        cases hd : oi.dst with
        | none => rfl
        | some d => exact (upd_out (fun e => a1 d hd (by rw [← e]; exact ht))).symm
      · rw [gi]
        exact updL_same ui (fun e => (c1 q e).1 hq)

end Go.Abs
