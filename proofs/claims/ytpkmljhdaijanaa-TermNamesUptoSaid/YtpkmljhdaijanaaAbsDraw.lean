/- The abstract interpreter: a region that draws its order. -/
import Derived.Test.YtpkmljhdaijanaaAbsLine
import Derived.Test.YtpkmljhdaijanaaAbsSwap
import Derived.Test.YtpkmljhdaijanaaAbsSched
import Derived.Test.YtpkmljhdaijanaaAbsPan
namespace Go.Abs

variable {M M' M'' : Mem} {ρ ρ' ρ'' : Ref} {G G' G'' : Nat → Obj} {w w' w'' : World} {nx nx' : Nat} {Q Q' Q'' Q0 : Nat → Prop} {P : Program} {C : Cfg} {L : Low}
variable {nt : Nat} {b : Frame} {cs : List Frame} {k : List Item} {ops : Array Oper} {i : Nat} {rest : List Nat} {o : Oper} {id : Nat} {s s' : St} {a : Act}

/-- Of two operations, the former stands before the latter, or they keep out of each other's way. -/
def Free (ops : Array Oper) (a b : Fp) : Prop := ordered ops a.i b.i = true ∨ (clash a b = false ∧ apartI ops a.i b.i = true)

theorem drawOK_pw : ∀ (fs : List Fp), drawOK ops fs = true → fs.Pairwise (Free ops)
  | [], _ => .nil
  | f :: fs, h => by
    simp only [drawOK, Bool.and_eq_true] at h
    refine .cons (fun g hg => ?_) (drawOK_pw fs h.2)
    have key : ∀ (l : List Fp), clearOf ops f l = true → ∀ g ∈ l, Free ops f g := by
      intro l
      induction l with
      | nil => intro _ g hg; cases hg
      | cons x l ih =>
        intro h g hg
        simp only [clearOf, Bool.and_eq_true, Bool.or_eq_true, Bool.not_eq_true'] at h
        rcases List.mem_cons.1 hg with rfl | hg
        · exact h.1
        · exact ih h.2 g hg
    exact key fs h.1 g hg

theorem runD_cons {base : Nat} {l : List Nat} {fs : List Fp} (h : runD C L nt ops base (i :: l) s = some (s', fs)) :
    ∃ o s1 f fs', ops[i]? = some o ∧ stepD C L nt ops base i o s = some (s1, f) ∧ runD C L nt ops base l s1 = some (s', fs') ∧ fs = f :: fs' ∧ f.i = i := by
  simp only [runD] at h
  split at h
  · cases h
  · rename_i o ho
    split at h
    · rename_i s1 f h1
      split at h
      · rename_i s2 fs' h2
        cases h
        obtain ⟨v, ups, rd, e, _⟩ := stepD_some h1
        exact ⟨o, s1, f, fs', ho, h1, h2, rfl, by rw [e]⟩
      · cases h
    · cases h

theorem runD_of {base : Nat} {l : List Nat} {s1 : St} {f : Fp} {fs : List Fp} (ho : ops[i]? = some o) (h1 : stepD C L nt ops base i o s = some (s1, f)) (h2 : runD C L nt ops base l s1 = some (s', fs)) : runD C L nt ops base (i :: l) s = some (s', f :: fs) := by
  simp only [runD, ho, h1, h2]

/-- An operation that need not wait for those ahead comes to the front. -/
theorem runD_front {base x : Nat} {post : List Nat} : ∀ (pre : List Nat) {s : St} {fs : List Fp}, runD C L nt ops base (pre ++ x :: post) s = some (s', fs) → fs.Pairwise (Free ops) → (∀ y ∈ pre, ordered ops y x = false) →
    ∃ fx fs', runD C L nt ops base (x :: (pre ++ post)) s = some (s', fx :: fs') ∧ fx.i = x ∧ fs'.Pairwise (Free ops) ∧ (∀ f ∈ fs', f ∈ fs) ∧ fx ∈ fs
  | [], s, fs, h, hp, _ => by
    obtain ⟨o, s1, f, fs', ho, h1, h2, rfl, hf⟩ := runD_cons h
    exact ⟨f, fs', runD_of ho h1 h2, hf, (List.pairwise_cons.1 hp).2, fun g hg => by simp [hg], by simp⟩
  | y :: pre, s, fs, h, hp, hn => by
    obtain ⟨oy, s1, fy, fs1, hoy, h1, h2, rfl, hfy⟩ := runD_cons h
    have hp' := List.pairwise_cons.1 hp
    obtain ⟨fx, fs2, h3, hfx, hp2, hsub, hin⟩ := runD_front pre h2 hp'.2 (fun z hz => hn z (by simp [hz]))
    obtain ⟨ox, s2, f', fs3, hox, h4, h5, e, _⟩ := runD_cons h3
    cases e
    have hfree := hp'.1 fx hin
    unfold Free at hfree
    rw [hfy, hfx, hn y (by simp)] at hfree
    simp only [Bool.false_eq_true, false_or] at hfree
    have hap : oy.apart ops ox = true := by have := hfree.2; unfold apartI at this; rw [hoy, hox] at this; exact this
    obtain ⟨s1', h6, h7⟩ := stepD_swap h1 h4 hfree.1 hap
    refine ⟨fx, fy :: fs2, runD_of hox h6 (runD_of hoy h7 h5), hfx, .cons (fun g hg => hp'.1 g (hsub g hg)) hp2, fun g hg => ?_, by simp [hin]⟩
    rcases List.mem_cons.1 hg with rfl | hg
    · simp
    · simp [hsub g hg]

theorem stepA_of_stepD {base : Nat} {s1 : St} {f : Fp} (h : stepD C L nt ops base i o s = some (s1, f)) : stepA C L nt ops (base + i) o s = some (.norm s1) := by
  obtain ⟨v, ups, rd, rfl, hp, hs⟩ := stepD_some h
  unfold stepA
  rcases hs with ⟨h1, h2, _⟩ | ⟨h1, rfl, rfl, _⟩
  · simp only [h1, h2, hp]
  · have hp : put nt s o.dst (.imm (.tup [])) = some s1 := hp
    simp only [h1, hp]

theorem runT_ok (hC : CfgOK C) (hL : CallOK C.P L) (hR : RoundOK C.P L) {base : Nat} : ∀ (t : List Nat) {l : List Nat} {s : St} {a : Act} {Q : Nat → Prop} {w : World} {M : Mem} {ρ : Ref} {fs : List Fp}, runD C L nt ops base l s = some (s', fs) → fs.Pairwise (Free ops) →
    t.Nodup → (∀ i, i ∈ t ↔ i ∈ l) → l.Nodup → t.Pairwise (fun i j => ordered ops j i = false) → (∀ i ∈ t, i < ops.size ∧ ρ (base + i) = none) → base + ops.size ≤ s.nx → SR nt Q0 Q w M ρ s a → PkOK M b cs s.pk →
    LineEnd C.P nt b cs k Q0 (base ≤ ·) Q w M ρ s.G s.nx (lone (b.atR a (.inRegion ops t :: k)) (csM s.pk cs) w) (.norm s')
  | [], l, s, a, Q, w, M, ρ, fs, h, hp, hnd, hm, hnl, hv, hi, hn, hS, hpk => by
    have : l = [] := List.eq_nil_iff_forall_not_mem.2 fun x hx => by have := (hm x).2 hx; cases this
    subst this
    cases h
    exact ⟨a, Q, w, M, ρ, ⟨Tr.refl _ _ _ _ _ _, Nat.le_refl _, hS, hpk⟩, .one stepR_region_end⟩
  | x :: t, l, s, a, Q, w, M, ρ, fs, h, hp, hnd, hm, hnl, hv, hi, hn, hS, hpk => by
    obtain ⟨pre, post, rfl⟩ := List.append_of_mem ((hm x).1 (by simp))
    have hnd' := List.nodup_cons.1 hnd
    have hv' := List.pairwise_cons.1 hv
    have hxl : x ∉ pre ++ post := by
      have := List.nodup_append.1 hnl
      intro hh
      rcases List.mem_append.1 hh with h1 | h1
      · exact this.2.2 x h1 x (by simp) rfl
      · exact (List.nodup_cons.1 this.2.1).1 h1
    have hnl' : (pre ++ post).Nodup := by
      have h1 := List.nodup_append.1 hnl
      refine List.nodup_append.2 ⟨h1.1, (List.nodup_cons.1 h1.2.1).2, fun u hu v hv => h1.2.2 u hu v (by simp [hv])⟩
    have hmem : ∀ j, j ∈ t ↔ j ∈ pre ++ post := fun j => by
      have h1 := hm j
      constructor
      · intro hj
        have := h1.1 (by simp [hj])
        rcases List.mem_append.1 this with h2 | h2
        · simp [h2]
        · rcases List.mem_cons.1 h2 with h3 | h3
          · subst h3; exact absurd hj hnd'.1
          · simp [h3]
      · intro hj
        have : j ∈ x :: t := h1.2 (by rcases List.mem_append.1 hj with h2 | h2 <;> simp [h2])
        rcases List.mem_cons.1 this with h3 | h3
        · subst h3; exact absurd hj hxl
        · exact h3
    obtain ⟨fx, fs', h1, hfx, hp', _, _⟩ := runD_front pre h hp (fun y hy => hv'.1 y ((hmem y).2 (by simp [hy])))
    obtain ⟨o, s1, f, fs2, ho, h2, h3, e, _⟩ := runD_cons h1
    cases e
    have hix := hi x (by simp)
    obtain ⟨a1, Q1, w1, M1, ρ1, g, st⟩ := stepA_ok (k := k) (rest := t) hC hL hR (stepA_of_stepD h2) ho hS hpk hix.2 (by omega)
    have := runT_ok hC hL hR t h3 hp' hnd'.2 hmem hnl' hv'.2 (fun j hj => ⟨(hi j (by simp [hj])).1, g.tr.born _ (fun e => by
      rcases e with e | e
      · have : j = x := by omega
        subst this; exact hnd'.1 hj
      · have := (hi j (by simp [hj])).1; omega) (hi j (by simp [hj])).2⟩) (Nat.le_trans hn g.nx) g.sr g.pk
    exact LineEnd.after g.tr g.nx st this (fun o e => by rcases e with e | e <;> omega) (fun _ h => h)

/-! ### where an operation fails -/
def runXL (C : Cfg) (L : Low) (nt : Nat) (ops : Array Oper) (base : Nat) : List Nat → St → Option (List (Fp × Option IV))
  | [], _ => some []
  | i :: r, s => match ops[i]? with
    | none => none
    | some o => match stepX C L nt ops base i o s with
      | some (s1, f, p) => match runXL C L nt ops base r s1 with
        | some es => some ((f, p) :: es)
        | none => none
      | none => none

theorem stepX_i {base : Nat} {s1 : St} {f : Fp} {p : Option IV} (h : stepX C L nt ops base i o s = some (s1, f, p)) : f.i = i := by
  cases p with
  | none => obtain ⟨v, ups, rd, e, _⟩ := stepD_some (stepX_none.1 h); rw [e]
  | some x => obtain ⟨_, rd, e, _⟩ := stepX_pan.1 h; rw [e]

theorem runX_list {base : Nat} : ∀ (l ps : List Nat) {s : St} {es : List (Fp × Option IV)}, runX C L nt ops base l ps s = some es →
    ∃ l', runXL C L nt ops base l' s = some es ∧ l'.Sublist l ∧ ∀ d ∈ l, d ∉ l' → ∃ p, (p ∈ ps ∨ ∃ e ∈ es, e.1.i = p ∧ e.2.isSome = true) ∧ ordered ops p d = true
  | [], ps, s, es, h => by cases h; exact ⟨[], rfl, .slnil, fun d hd => by cases hd⟩
  | i :: r, ps, s, es, h => by
    simp only [runX] at h
    split at h
    · rename_i hp
      obtain ⟨l', h1, h2, h3⟩ := runX_list r ps h
      refine ⟨l', h1, .cons _ h2, fun d hd hn => ?_⟩
      rcases List.mem_cons.1 hd with rfl | hd
      · obtain ⟨p, hp1, hp2⟩ := List.any_eq_true.1 hp
        exact ⟨p, .inl hp1, hp2⟩
      · exact h3 d hd hn
    · split at h
      · cases h
      · rename_i o ho
        split at h
        · rename_i s1 f h1
          split at h
          · rename_i es' h2
            cases h
            obtain ⟨l', h3, h4, h5⟩ := runX_list r ps h2
            refine ⟨i :: l', by simp only [runXL, ho, h1, h3], .cons_cons _ h4, fun d hd hn => ?_⟩
            rcases List.mem_cons.1 hd with rfl | hd
            · exact absurd (by simp) hn
            · obtain ⟨p, hp, hd'⟩ := h5 d hd (fun e => hn (by simp [e]))
              exact ⟨p, hp.imp (fun h => h) (fun ⟨e, he, h⟩ => ⟨e, by simp [he], h⟩), hd'⟩
          · cases h
        · rename_i s1 f v h1
          split at h
          · rename_i es' h2
            cases h
            obtain ⟨l', h3, h4, h5⟩ := runX_list r (i :: ps) h2
            refine ⟨i :: l', by simp only [runXL, ho, h1, h3], .cons_cons _ h4, fun d hd hn => ?_⟩
            rcases List.mem_cons.1 hd with rfl | hd
            · exact absurd (by simp) hn
            · obtain ⟨p, hp, hd'⟩ := h5 d hd (fun e => hn (by simp [e]))
              refine ⟨p, ?_, hd'⟩
              rcases hp with hp | ⟨e, he, h⟩
              · rcases List.mem_cons.1 hp with rfl | hp
                · exact .inr ⟨(f, some v), by simp, stepX_i h1, rfl⟩
                · exact .inl hp
              · exact .inr ⟨e, by simp [he], h⟩
          · cases h
        · cases h

theorem runXL_cons {base : Nat} {l : List Nat} {es : List (Fp × Option IV)} (h : runXL C L nt ops base (i :: l) s = some es) :
    ∃ o s1 f p es', ops[i]? = some o ∧ stepX C L nt ops base i o s = some (s1, f, p) ∧ runXL C L nt ops base l s1 = some es' ∧ es = (f, p) :: es' ∧ f.i = i := by
  simp only [runXL] at h
  split at h
  · cases h
  · rename_i o ho
    split at h
    · rename_i s1 f p h1
      split at h
      · rename_i es' h2; cases h; exact ⟨o, s1, f, p, es', ho, h1, h2, rfl, stepX_i h1⟩
      · cases h
    · cases h

theorem runXL_i {base : Nat} : ∀ (l : List Nat) {s : St} {es : List (Fp × Option IV)}, runXL C L nt ops base l s = some es → es.map (·.1.i) = l
  | [], s, es, h => by cases h; rfl
  | i :: l, s, es, h => by
    obtain ⟨o, s1, f, p, es', ho, h1, h2, rfl, hf⟩ := runXL_cons h
    simp only [List.map_cons, hf, runXL_i l h2]

theorem runXL_of {base : Nat} {l : List Nat} {s1 : St} {f : Fp} {p : Option IV} {es : List (Fp × Option IV)} (ho : ops[i]? = some o) (h1 : stepX C L nt ops base i o s = some (s1, f, p)) (h2 : runXL C L nt ops base l s1 = some es) :
    runXL C L nt ops base (i :: l) s = some ((f, p) :: es) := by
  simp only [runXL, ho, h1, h2]

theorem runXL_front {base x : Nat} {post : List Nat} : ∀ (pre : List Nat) {s : St} {es : List (Fp × Option IV)}, runXL C L nt ops base (pre ++ x :: post) s = some es → (es.map (·.1)).Pairwise (Free ops) → (∀ y ∈ pre, ordered ops y x = false) →
    ∃ ex es', runXL C L nt ops base (x :: (pre ++ post)) s = some (ex :: es') ∧ ex.1.i = x ∧ (es'.map (·.1)).Pairwise (Free ops) ∧ (∀ e ∈ es', e ∈ es) ∧ ex ∈ es ∧ (∀ e ∈ es, e = ex ∨ e ∈ es')
  | [], s, es, h, hp, _ => by
    obtain ⟨o, s1, f, p, es', ho, h1, h2, rfl, hf⟩ := runXL_cons h
    exact ⟨(f, p), es', runXL_of ho h1 h2, hf, (List.pairwise_cons.1 hp).2, fun g hg => by simp [hg], by simp, fun e he => by simpa using he⟩
  | y :: pre, s, es, h, hp, hn => by
    obtain ⟨oy, s1, fy, py, es1, hoy, h1, h2, rfl, hfy⟩ := runXL_cons h
    have hp' := List.pairwise_cons.1 hp
    obtain ⟨ex, es2, h3, hex, hp2, hsub, hin, hall⟩ := runXL_front pre h2 hp'.2 (fun z hz => hn z (by simp [hz]))
    obtain ⟨ox, s2, fx, px, es3, hox, h4, h5, e, _⟩ := runXL_cons h3
    cases e
    have hfree := hp'.1 fx (List.mem_map.2 ⟨_, hin, rfl⟩)
    unfold Free at hfree
    simp only at hex
    rw [hfy, hex, hn y (by simp)] at hfree
    simp only [Bool.false_eq_true, false_or] at hfree
    have hap : oy.apart ops ox = true := by have := hfree.2; unfold apartI at this; rw [hoy, hox] at this; exact this
    obtain ⟨s1', h6, h7⟩ := stepX_swap h1 h4 hfree.1 hap
    refine ⟨(fx, px), (fy, py) :: es2, runXL_of hox h6 (runXL_of hoy h7 h5), hex, ?_, fun g hg => ?_, by simp [hin], fun e he => ?_⟩
    · rw [List.map_cons]
      refine .cons (fun g hg => ?_) hp2
      obtain ⟨e, he, rfl⟩ := List.mem_map.1 hg
      exact hp'.1 _ (List.mem_map.2 ⟨e, hsub e he, rfl⟩)
    · rcases List.mem_cons.1 hg with rfl | hg
      · simp
      · simp [hsub g hg]
    · rcases List.mem_cons.1 he with rfl | he
      · simp
      · rcases hall e he with h | h
        · exact .inl h
        · exact .inr (by simp [h])

/-- How a state may have come of another one, where not all of some operations were done. -/
structure Part (ops : Array Oper) (base : Nat) (es : List (Fp × Option IV)) (s s' : St) : Prop where
  defers : s'.defers = s.defers
  pk : s'.pk = s.pk
  nx : s'.nx = s.nx
  G : ∀ q, q < base → s'.G q = s.G q ∨ (q ∈ fzAll es ∧ s'.G q = (s.G q).freeze)
  tmps : ∀ t, s'.tmps t = s.tmps t ∨ ∃ o ∈ ops.toList, o.dst = some t

theorem Part.refl (base : Nat) (es : List (Fp × Option IV)) (s : St) : Part ops base es s s := ⟨rfl, rfl, rfl, fun _ _ => .inl rfl, fun _ => .inl rfl⟩

theorem Part.step {base : Nat} {es es' : List (Fp × Option IV)} {s1 s2 : St} {f : Fp} (ho : ops[i]? = some o) (h : stepD C L nt ops base i o s = some (s1, f)) (hf : (f, none) ∈ es) (hw : ∀ q ∈ f.wr, base ≤ q) (hs : ∀ e ∈ es', e ∈ es) (k : Part ops base es' s1 s2) : Part ops base es s s2 := by
  obtain ⟨v, ups, rd, rfl, hp, _⟩ := stepD_some h
  obtain ⟨g1, n1, d1, k1, _, t1⟩ := put_some hp
  simp only at g1 n1 d1 k1 t1 hw
  have hsub : ∀ q, q ∈ fzAll es' → q ∈ fzAll es := fun q hq => by
    obtain ⟨e, he, hq⟩ := List.mem_flatMap.1 hq
    exact List.mem_flatMap.2 ⟨e, hs e he, hq⟩
  refine ⟨k.defers.trans d1, k.pk.trans k1, k.nx.trans n1, fun q hq => ?_, fun t => ?_⟩
  · have hnw : q ∉ wrOf ups := fun e => by have := hw q e; omega
    have h1 : s1.G q = s.G q ∨ (q ∈ fzAll es ∧ s1.G q = (s.G q).freeze) := by
      rw [g1]
      by_cases hz : q ∈ fzOf ups
      · exact .inr ⟨List.mem_flatMap.2 ⟨_, hf, hz⟩, updL_frzd ups hnw hz⟩
      · exact .inl (updL_out ups hnw hz)
    rcases k.G q hq with h2 | ⟨h2, h3⟩
    · rw [h2]; exact h1
    · right
      refine ⟨hsub q h2, ?_⟩
      rcases h1 with h1 | ⟨_, h1⟩
      · rw [h3, h1]
      · rw [h3, h1, freeze_freeze]
  · rcases k.tmps t with h2 | h2
    · rw [h2, t1]
      cases hd : o.dst with
      | none => exact .inl rfl
      | some d =>
        by_cases htd : t = d
        · subst htd; exact .inr ⟨o, by rw [Array.mem_toList_iff]; exact Array.mem_of_getElem? ho, hd⟩
        · left; simp [updO, upd, htd]
    · exact .inr h2

theorem failT_ok (hC : CfgOK C) (hL : CallOK C.P L) (hR : RoundOK C.P L) {base : Nat} : ∀ (t : List Nat) {l : List Nat} {s : St} {a : Act} {Q : Nat → Prop} {w : World} {M : Mem} {ρ : Ref} {es : List (Fp × Option IV)}, runXL C L nt ops base l s = some es → (es.map (·.1)).Pairwise (Free ops) →
    t.Nodup → (∀ i ∈ l, i ∈ t) → l.Nodup → (∀ d ∈ t, d ∉ l → ∃ e ∈ es, e.2.isSome = true ∧ ordered ops e.1.i d = true) → (∀ e ∈ es, e.1.i ∈ l) → t.Pairwise (fun i j => ordered ops j i = false) → (∀ i ∈ t, i < ops.size ∧ ρ (base + i) = none) → base + ops.size ≤ s.nx →
    SR nt Q0 Q w M ρ s a → PkOK M b cs s.pk → (∃ e ∈ es, e.2.isSome = true) → (∀ e ∈ es, ∀ q ∈ e.1.wr, base ≤ q) →
    ∃ e ∈ es, ∃ v sK a' Q' w' M' ρ' todo x, e.2 = some v ∧ Part ops base es s sK ∧ Goes nt b cs Q0 (base ≤ ·) Q w M ρ s.G s.nx sK a' Q' w' M' ρ' ∧ VI M' v x ∧
      Steps C.P (lone (b.atR a (.inRegion ops t :: k)) (csM s.pk cs) w) (lone { b.atR a' todo with mode := .panicking [{ v := x, recovered := false }] } (csM sK.pk cs) w')
  | [], l, s, a, Q, w, M, ρ, es, h, hp, hnd, hm, hnl, hD, hil, hv, hi, hn, hS, hpk, ⟨e, he, hes⟩, hw => by
    have := hm _ (hil e he); cases this
  | x :: t, l, s, a, Q, w, M, ρ, es, h, hp, hnd, hm, hnl, hD, hil, hv, hi, hn, hS, hpk, hes, hw => by
    have hnd' := List.nodup_cons.1 hnd
    have hv' := List.pairwise_cons.1 hv
    have hxl : x ∈ l := by
      by_cases hx : x ∈ l
      · exact hx
      · exfalso
        obtain ⟨e, he, _, ho⟩ := hD x (by simp) hx
        have hel := hil e he
        have : e.1.i ∈ x :: t := hm _ hel
        rcases List.mem_cons.1 this with h1 | h1
        · exact hx (h1 ▸ hel)
        · rw [hv'.1 _ h1] at ho; cases ho
    obtain ⟨pre, post, rfl⟩ := List.append_of_mem hxl
    have hnl2 := List.nodup_append.1 hnl
    have hxn : x ∉ pre ++ post := by
      intro hh
      rcases List.mem_append.1 hh with h1 | h1
      · exact hnl2.2.2 x h1 x (by simp) rfl
      · exact (List.nodup_cons.1 hnl2.2.1).1 h1
    have hnl' : (pre ++ post).Nodup := List.nodup_append.2 ⟨hnl2.1, (List.nodup_cons.1 hnl2.2.1).2, fun u hu v hv => hnl2.2.2 u hu v (by simp [hv])⟩
    have hmt : ∀ j ∈ pre ++ post, j ∈ t := fun j hj => by
      have : j ∈ x :: t := hm j (by rcases List.mem_append.1 hj with h2 | h2 <;> simp [h2])
      rcases List.mem_cons.1 this with h3 | h3
      · subst h3; exact absurd hj hxn
      · exact h3
    obtain ⟨ex, es', h1, hex, hp', hsub, hin, hall⟩ := runXL_front pre h hp (fun y hy => hv'.1 y (hmt y (by simp [hy])))
    obtain ⟨o, s1, f, p, es2, ho, h2, h3, e, hfi⟩ := runXL_cons h1
    cases e
    have hix := hi x (by simp)
    cases p with
    | some v =>
      obtain ⟨e1, rd, rfl, hpan⟩ := stepX_pan.1 h2
      subst e1
      obtain ⟨hw1, ⟨s3, hop⟩, hpo, _⟩ := hpan
      have e3 := opA_pan hop hpo
      rw [e3] at hop
      have hA : stepA C L nt ops (base + x) o s1 = some (.pan v s1) := by unfold stepA; simp only [hw1, hop]
      obtain ⟨a', Q', w', M', ρ', todo, y, g, hy, st⟩ := stepA_ok (k := k) (rest := t) hC hL hR hA ho hS hpk hix.2 (by omega)
      exact ⟨_, hin, v, s1, a', Q', w', M', ρ', todo, y, rfl, .refl _ _ _, ⟨g.tr.weak (fun o e => by rcases e with e | e <;> omega), g.nx, g.sr, g.pk⟩, hy, st⟩
    | none =>
      have hd := stepX_none.1 h2
      obtain ⟨a1, Q1, w1, M1, ρ1, g, st⟩ := stepA_ok (k := k) (rest := t) hC hL hR (stepA_of_stepD hd) ho hS hpk hix.2 (by omega)
      have hi2 : ∀ e ∈ es', e.1.i ∈ pre ++ post := fun e he => by
        rw [← runXL_i _ h3]
        exact List.mem_map.2 ⟨e, he, rfl⟩
      obtain ⟨e, he, v, sK, a', Q', w', M', ρ', todo, y, hev, hpart, gK, hy, stK⟩ := failT_ok hC hL hR t h3 hp' hnd'.2 hmt hnl' (fun d hdt hdl => by
          obtain ⟨e, he, h4, h5⟩ := hD d (by simp [hdt]) (fun hh => by
            rcases List.mem_append.1 hh with h6 | h6
            · exact hdl (by simp [h6])
            · rcases List.mem_cons.1 h6 with h7 | h7
              · exact hnd'.1 (h7 ▸ hdt)
              · exact hdl (by simp [h7]))
          rcases hall e he with rfl | h6
          · cases h4
          · exact ⟨e, h6, h4, h5⟩) hi2 hv'.2 (fun j hj => ⟨(hi j (by simp [hj])).1, g.tr.born _ (fun e => by
          rcases e with e | e
          · have : j = x := by omega
            subst this; exact hnd'.1 hj
          · have := (hi j (by simp [hj])).1; omega) (hi j (by simp [hj])).2⟩) (Nat.le_trans hn g.nx) g.sr g.pk (by
          obtain ⟨e, he, h4⟩ := hes
          rcases hall e he with rfl | h6
          · cases h4
          · exact ⟨e, h6, h4⟩) (fun e he => hw e (hsub e he))
      exact ⟨e, hsub e he, v, sK, a', Q', w', M', ρ', todo, y, hev, hpart.step ho hd hin (hw _ hin) hsub, Goes.after g.tr g.nx gK (fun o e => by rcases e with e | e <;> omega) (fun _ h => h), hy, st.trans stK⟩

theorem Inv.thin (h : Inv Q w M ρ G nx) (hG : ∀ q, G' q = G q ∨ G' q = .gone) : Inv Q w M ρ G' nx ∧ Ev M ρ G M ρ G' := by
  have hv : Ev M ρ G M ρ G' := ⟨Mem.le_refl M, fun _ _ h => .inl h, fun o _ et sz xs fr e => by
    rcases hG o with h1 | h1
    · exact ⟨xs, fr, h1 ▸ e, Nat.le_refl _, fun _ => rfl⟩
    · rw [h1] at e; cases e⟩
  have hl : ∀ o, (G' o).live = true → G' o = G o := fun o ho => by
    rcases hG o with h1 | h1
    · exact h1
    · rw [h1] at ho; simp [Obj.live] at ho
  refine ⟨⟨h.mem, fun o => ?_, h.free, fun o ho => ?_, fun o o' v v' b h1 h2 => ?_, fun o v b h1 h2 => ?_, h.new⟩, hv⟩
  · rcases hG o with h1 | h1
    · exact (h.obj o).mono h1 rfl hv (fun _ _ _ _ => rfl)
    · unfold ObjOK; rw [h1]; trivial
  · rcases hG o with h1 | h1
    · rw [h1]; exact h.gone o ho
    · exact h1
  · exact h.sep o o' v v' b (hl o h1 ▸ h1) (hl o' h2 ▸ h2)
  · exact h.own o v b (hl o h1 ▸ h1) (hl o h1 ▸ h2)

theorem freeze_data {x : Obj} (h : x.data = false) : x.freeze = x := by cases x <;> first | rfl | simp [Obj.data] at h

theorem poison_ok {es : List (Fp × Option IV)} {sK : St} {a' : Act} (hS : SR nt Q0 Q w M ρ s a) (hp : Part ops s.nx es { s with nx := s.nx + ops.size } sK) {n0 : Nat} (g : Goes nt b cs Q0 (s.nx ≤ ·) Q w M ρ s.G n0 sK a' Q' w' M' ρ') :
    ∃ M'', M'.le M'' ∧ Goes nt b cs Q0 (s.nx ≤ ·) Q w M ρ s.G s.nx (poison ops es s) a' Q' w' M'' ρ' := by
  let ids := (fzAll es).filter fun q => (sK.G q).data
  have hids : ∀ o ∈ ids, (sK.G o).data = true := fun o ho => (List.mem_filter.1 ho).2
  have h1 := g.sr.inv.frz hids
  have e1 := Ev.frz w' M' ρ' sK.G ids
  have hG : ∀ q, (poison ops es s).G q = updL sK.G (frz ids) q ∨ (poison ops es s).G q = .gone := by
    intro q
    simp only [poison, List.contains_iff_mem]
    rcases Nat.lt_or_ge q s.nx with hq | hq
    · left
      rw [updL_frz]
      have hpq := hp.G q hq
      simp only at hpq
      by_cases hz : q ∈ fzAll es
      · rw [if_pos hz]
        by_cases hd : (sK.G q).data = true
        · rw [if_pos (show q ∈ ids from List.mem_filter.2 ⟨hz, hd⟩)]
          rcases hpq with h2 | ⟨_, h2⟩
          · rw [h2]
          · rw [h2, freeze_freeze]
        · rw [if_neg (fun e : q ∈ ids => hd (List.mem_filter.1 e).2)]
          rcases hpq with h2 | ⟨_, h2⟩
          · rw [h2] at hd ⊢; exact freeze_data (by simpa using hd)
          · exact h2.symm
      · rw [if_neg hz, if_neg (fun e : q ∈ ids => hz (List.mem_filter.1 e).1)]
        rcases hpq with h2 | ⟨h2, _⟩
        · exact h2.symm
        · exact absurd h2 hz
    · right
      have hgone := hS.inv.gone q (hS.inv.free q hq)
      rw [hgone]
      split <;> rfl
  obtain ⟨h2, e2⟩ := h1.thin hG
  have t2 : Tr (fun _ => False) Q' w' M' ρ' sK.G Q' w' (memOf w' M' ρ' ids) ρ' (poison ops es s).G := ⟨fun _ h => h, e1.trans e2, WS.refl _ _, MQ.memOf g.sr.inv hids, fun _ _ h => h⟩
  refine ⟨_, t2.ev.mem, g.tr.trans t2 (fun _ h => h) (fun _ h => h.elim), by simp [poison], ⟨?_, fun t => ?_, g.sr.size, g.sr.sub, ?_⟩, ?_⟩
  · have hn : sK.nx = s.nx + ops.size := hp.nx
    rw [hn] at h2
    exact h2
  · simp only [poison]
    split
    · exact .undef _
    · rename_i hno
      rcases hp.tmps t with h3 | ⟨o, ho, hd⟩
      · have := (g.sr.tmps t).mono t2.ev
        rw [h3] at this
        exact this
      · exact absurd (List.any_eq_true.2 ⟨o, ho, by simp [hd]⟩) hno
  · have hd := g.sr.dfr.mono t2
    rw [hp.defers] at hd
    exact hd
  · have := g.pk.mono t2.ev.mem
    rw [hp.pk] at this
    exact this

theorem alike_eq {x y : IV} (h : IV.alike x y = true) : x = y := by
  unfold IV.alike at h
  split at h
  · simp only [decide_eq_true_eq] at h; rw [h]
  · cases h

theorem drawn_ok (hC : CfgOK C) (hL : CallOK C.P L) (hR : RoundOK C.P L) {out : Out} (h : regionA C L nt ops true s = some out) (hS : SR nt Q0 Q w M ρ s a) (hpk : PkOK M b cs s.pk) :
    LineEnd C.P nt b cs k Q0 (s.nx ≤ ·) Q w M ρ s.G s.nx (lone (b.atR a (.code (.region id ops true) :: k)) (csM s.pk cs) w) out := by
  unfold regionA at h
  simp only [if_true] at h
  split at h
  · rename_i s1 fs hrun
    split at h
    · rename_i hd
      cases h
      simp only [Bool.and_eq_true] at hd
      have hws : Tr (fun o => s.nx ≤ o) Q w M ρ s.G Q { w with drawn := w.drawn + 1 } M ρ s.G := ⟨fun _ h => h, Ev.refl _ _ _, ⟨rfl, rfl, rfl, Nat.le_refl _, fun _ _ => rfl⟩, MQ.refl _ _, fun _ _ h => h⟩
      have hI' : Inv Q { w with drawn := w.drawn + 1 } M ρ s.G s.nx := hS.inv.world (fun _ _ => rfl) (Nat.le_refl _)
      have hS' : SR nt Q0 Q { w with drawn := w.drawn + 1 } M ρ { s with nx := s.nx + ops.size } a := ⟨hI'.later (by simp), hS.tmps, hS.size, hS.sub, hS.dfr.mono hws⟩
      obtain ⟨h1, h2, h3⟩ := sched_ok hd.2 (w.tape w.drawn (.order b.fn id))
      have := runT_ok hC hL hR (k := k) (cs := cs) (b := b) (Region.schedule true ops (w.tape w.drawn (.order b.fn id))) hrun (drawOK_pw fs hd.1) h1 (fun i => (h2 i).trans (by simp)) List.nodup_range h3 (fun i hi => ⟨(h2 i).1 hi, hS.inv.free _ (by omega)⟩) (Nat.le_refl _) hS' hpk
      have hst := stepR_region_draw (P := C.P) (b := b) (a := a) (k := k) (cs := csM s.pk cs) (w := w) (ops := ops) (id := id)
      rw [hC.mixed] at hst
      exact LineEnd.after hws (by simp) (.one hst) this (fun _ h => h) (fun _ h => h)
    · cases h
  · unfold failA at h
    split at h
    rotate_left
    · cases h
    rename_i es hrun
    split at h
    rotate_left
    · cases h
    rename_i v r hpans
    split at h
    rotate_left
    · cases h
    rename_i hd
    cases h
    simp only [Bool.and_eq_true] at hd
    obtain ⟨⟨⟨hal, hdr⟩, hed⟩, hwr⟩ := hd
    have hws : Tr (fun o => s.nx ≤ o) Q w M ρ s.G Q { w with drawn := w.drawn + 1 } M ρ s.G := ⟨fun _ h => h, Ev.refl _ _ _, ⟨rfl, rfl, rfl, Nat.le_refl _, fun _ _ => rfl⟩, MQ.refl _ _, fun _ _ h => h⟩
    have hI' : Inv Q { w with drawn := w.drawn + 1 } M ρ s.G s.nx := hS.inv.world (fun _ _ => rfl) (Nat.le_refl _)
    have hS0 : SR nt Q0 Q { w with drawn := w.drawn + 1 } M ρ s a := ⟨hI', hS.tmps, hS.size, hS.sub, hS.dfr.mono hws⟩
    have hS' : SR nt Q0 Q { w with drawn := w.drawn + 1 } M ρ { s with nx := s.nx + ops.size } a := ⟨hI'.later (by simp), hS.tmps, hS.size, hS.sub, hS.dfr.mono hws⟩
    obtain ⟨h1, h2, h3⟩ := sched_ok hed (w.tape w.drawn (.order b.fn id))
    obtain ⟨l', hl1, hl2, hl3⟩ := runX_list _ _ hrun
    have hil := runXL_i _ hl1
    have hin : ∀ e ∈ es, e.1.i ∈ l' := fun e he => by rw [← hil]; exact List.mem_map.2 ⟨e, he, rfl⟩
    have hsome : ∃ e ∈ es, e.2.isSome = true := by
      have : v ∈ es.filterMap (·.2) := by rw [hpans]; simp
      obtain ⟨e, he, hv⟩ := List.mem_filterMap.1 this
      exact ⟨e, he, by rw [hv]; rfl⟩
    obtain ⟨e, he, v', sK, a', Q', w', M', ρ', todo, x, hev, hpart, g, hx, st⟩ := failT_ok hC hL hR (k := k) (cs := cs) (b := b) (Region.schedule true ops (w.tape w.drawn (.order b.fn id))) hl1 (drawOK_pw _ hdr) h1 (fun i hi => (h2 i).2 (by
        have := hl2.subset hi; simpa using this)) (hl2.nodup List.nodup_range) (fun d hd hn => by
        obtain ⟨p, hp, ho⟩ := hl3 d (by have := (h2 d).1 hd; simpa using this) hn
        rcases hp with hp | ⟨e, he, h4, h5⟩
        · cases hp
        · exact ⟨e, he, h5, by rw [h4]; exact ho⟩) hin h3 (fun i hi => ⟨(h2 i).1 hi, hS.inv.free _ (by omega)⟩) (Nat.le_refl _) hS' hpk hsome (fun e he q hq => by
        have := List.all_eq_true.1 (List.all_eq_true.1 hwr e he) q hq
        simpa using this)
    have hvv : v' = v := by
      have hm : v' ∈ es.filterMap (·.2) := List.mem_filterMap.2 ⟨e, he, hev⟩
      rw [hpans] at hm
      rcases List.mem_cons.1 hm with h4 | h4
      · exact h4
      · exact (alike_eq (List.all_eq_true.1 hal v' h4)).symm
    subst hvv
    obtain ⟨M'', hle, gp⟩ := poison_ok hS0 hpart g
    have hst := stepR_region_draw (P := C.P) (b := b) (a := a) (k := k) (cs := csM s.pk cs) (w := w) (ops := ops) (id := id)
    rw [hC.mixed] at hst
    have hpkK : (poison ops es s).pk = sK.pk := hpart.pk.symm
    refine LineEnd.after hws (Nat.le_refl _) (.one hst) (m1 := _) (N2 := fun o => s.nx ≤ o) ?_ (fun _ h => h) (fun _ h => h)
    exact ⟨a', Q', w', M'', ρ', todo, x, gp, hx.mono hle, by rw [hpkK]; exact st⟩

end Go.Abs
