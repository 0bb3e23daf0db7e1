/- The abstract interpreter: values as data. -/
import Derived.Test.YtpkmljhdaijanaaAbsMap
namespace Go.Abs

variable {id : Nat}
variable {M M' : Mem} {ρ ρ' : Ref} {G G' : Nat → Obj} {w w' : World} {nx : Nat} {Q : Nat → Prop} {P : Program} {C : Cfg}

theorem peekL_some {f : AV → Option (IV × List Nat)} : ∀ {l : List AV} {xs : List IV} {ids : List Nat}, peekL f l = some (xs, ids) →
    xs.length = l.length ∧ ∀ (i : Nat) v, l[i]? = some v → ∃ x is, f v = some (x, is) ∧ xs[i]? = some x ∧ ∀ o ∈ is, o ∈ ids := by
  intro l
  induction l with
  | nil => intro xs ids h; simp only [peekL, Option.some.injEq, Prod.mk.injEq] at h; obtain ⟨rfl, rfl⟩ := h; exact ⟨rfl, fun i v hv => by simp at hv⟩
  | cons v r ih =>
    intro xs ids h
    simp only [peekL] at h
    split at h
    · rename_i x i hf
      split at h
      · rename_i l ids' hl
        cases h
        obtain ⟨h1, h2⟩ := ih hl
        refine ⟨by simp [h1], fun j u hu => ?_⟩
        cases j with
        | zero => simp at hu; subst hu; exact ⟨x, i, hf, rfl, fun o ho => by simp [ho]⟩
        | succ j =>
          obtain ⟨y, is, g1, g2, g3⟩ := h2 j u (by simpa using hu)
          exact ⟨y, is, g1, by simpa using g2, fun o ho => by simp [g3 o ho]⟩
      · cases h
    · cases h

/-- The cells of what is seen as data. -/
theorem peek_cells {k : Nat} {y : AV} {z : IV} {ids : List Nat} {n : Nat} (h : peek G k y = some (z, ids)) (hf : y.fits n = true) :
    z.cells.length = n ∧ ∀ (j : Nat) u, z.cells[j]? = some u → ∃ yj is k', y.cells[j]? = some yj ∧ k' ≤ k ∧ peek G k' yj = some (u, is) ∧ ∀ o ∈ is, o ∈ ids := by
  have hn := AV.fits_len hf
  have single : (∀ l, z ≠ .agg l) → y.cells = [y] → z.cells.length = n ∧ ∀ (j : Nat) u, z.cells[j]? = some u → ∃ yj is k', y.cells[j]? = some yj ∧ k' ≤ k ∧ peek G k' yj = some (u, is) ∧ ∀ o ∈ is, o ∈ ids := by
    intro hz hy
    have hzc : z.cells = [z] := by cases z <;> first | rfl | exact absurd rfl (hz _)
    rw [hy] at hn
    rw [hzc]
    refine ⟨hn, fun j u hu => ?_⟩
    cases j with
    | zero => simp at hu; subst hu; exact ⟨y, ids, k, by rw [hy]; rfl, Nat.le_refl _, h, fun o ho => ho⟩
    | succ j => simp at hu
  cases y with
  | imm x =>
    have hx : z = x ∧ ids = [] := by cases k <;> simp [peek] at h <;> exact ⟨h.1.symm, h.2⟩
    obtain ⟨rfl, rfl⟩ := hx
    cases z with
    | agg cs =>
      simp only [AV.cells, List.length_map] at hn
      refine ⟨hn, fun j u hu => ⟨.imm u, [], 0, by simp [AV.cells]; simpa [IV.cells] using hu, Nat.zero_le _, by simp [peek], fun o ho => ho⟩⟩
    | _ => exact single (fun l e => by cases e) rfl
  | agg cs =>
    cases k with
    | zero => simp [peek] at h
    | succ k =>
      simp only [peek] at h
      split at h
      · rename_i l is hl
        cases h
        obtain ⟨h1, h2⟩ := peekL_some hl
        simp only [AV.cells] at hn
        refine ⟨by simp [IV.cells, h1, hn], fun j u hu => ?_⟩
        simp only [IV.cells] at hu
        have hj := (List.getElem?_eq_some_iff.1 hu).1
        have hjc : j < cs.length := by omega
        obtain ⟨x, is', g1, g2, g3⟩ := h2 j cs[j] (List.getElem?_eq_getElem hjc)
        rw [hu] at g2; cases g2
        exact ⟨cs[j], is', k, List.getElem?_eq_getElem hjc, by omega, g1, g3⟩
      · cases h
  | tup cs => have := AV.fits_one hf; simp [AV.cells, AV.one] at this
  | undef => cases k <;> simp [peek] at h
  | rptr => cases k <;> simp [peek] at h
  | yld => cases k <;> simp [peek] at h
  | nils => refine single (fun l e => ?_) rfl; subst e; cases k <;> simp [peek] at h
  | _ =>
    refine single (fun l e => ?_) rfl
    subst e
    cases k with
    | zero => simp [peek] at h
    | succ k =>
      simp only [peek] at h
      repeat (split at h)
      all_goals first | cases h | (simp at h; done)

open Classical in
/-- Memory that doesn't change from now on: that of some objects, too. -/
noncomputable def memOf (w : World) (M : Mem) (ρ : Ref) (ids : List Nat) : Mem := fun b =>
  match M b with
  | some o => some o
  | none => if ∃ o ∈ ids, ∃ v, ρ o = some v ∧ blk v = some b then w.heap[b]? else none

theorem memOf_le (w : World) (M : Mem) (ρ : Ref) (ids : List Nat) : M.le (memOf w M ρ ids) := fun b o h => by simp [memOf, h]

theorem memOf_mem (hm : ∀ b o, M b = some o → w.heap[b]? = some o) {ids : List Nat} {b : Nat} {o : Go.Obj} (h : memOf w M ρ ids b = some o) : w.heap[b]? = some o := by
  unfold memOf at h
  split at h
  · rename_i o' e; cases h; exact hm b o e
  · split at h
    · exact h
    · cases h

theorem memOf_of {ids : List Nat} {o b : Nat} {v : Value} {ob : Go.Obj} (hm : ∀ b o, M b = some o → w.heap[b]? = some o) (ho : o ∈ ids) (hv : ρ o = some v) (hb : blk v = some b) (hh : w.heap[b]? = some ob) : memOf w M ρ ids b = some ob := by
  unfold memOf
  split
  · rename_i o' e; have := hm b o' e; rw [hh] at this; exact this.symm
  · rw [if_pos ⟨o, ho, v, hv, hb⟩]; exact hh

theorem memOf_ne {ids : List Nat} {b : Nat} (h : memOf w M ρ ids b ≠ none) : M b ≠ none ∨ ∃ o ∈ ids, ∃ v, ρ o = some v ∧ blk v = some b := by
  unfold memOf at h
  split at h
  · rename_i o e; left; rw [e]; simp
  · split at h
    · right; assumption
    · exact absurd rfl h

/-- What is seen as data is what is there. -/
theorem peek_VI (hI : Inv Q w M ρ G nx) {ids : List Nat} : ∀ (k : Nat) (v : AV) (x : IV) (is : List Nat) (c : Value), peek G k v = some (x, is) → (∀ o ∈ is, o ∈ ids) → VA M ρ G v c → VI (memOf w M ρ ids) x c := by
  intro k
  induction k using Nat.strongRecOn with
  | _ k ih =>
  have hle := memOf_le w M ρ ids
  intro v x is c h hin hv
  have list : ∀ (k' : Nat) (l : List AV) (xs : List IV) (is' : List Nat) (vs : Array Value), k' < k → peekL (peek G k') l = some (xs, is') → (∀ o ∈ is', o ∈ ids) → l.length = vs.size → (∀ (i : Nat) x, l[i]? = some x → VA M ρ G x (at_ vs i)) →
      xs.length = vs.size ∧ ∀ (i : Nat) x, xs[i]? = some x → VI (memOf w M ρ ids) x (at_ vs i) := by
    intro k' l xs is' vs hk hp hin' hlen hl
    obtain ⟨h1, h2⟩ := peekL_some hp
    refine ⟨by omega, fun i x hx => ?_⟩
    have hi := (List.getElem?_eq_some_iff.1 hx).1
    obtain ⟨y, is2, g1, g2, g3⟩ := h2 i l[i] (List.getElem?_eq_getElem (by omega))
    rw [hx] at g2; cases g2
    exact ih k' hk _ _ _ _ g1 (fun o ho => hin' o (g3 o ho)) (hl i _ (List.getElem?_eq_getElem (by omega)))
  cases hv with
  | imm y c hy =>
    have : x = y := by cases k <;> simp [peek] at h <;> exact h.1.symm
    subst this; exact hy.mono hle
  | undef => cases k <;> simp [peek] at h
  | nils =>
    have : x = .lst [] := by cases k <;> simp [peek] at h <;> exact h.1.symm
    subst this; exact .nil
  | rptr => cases k <;> simp [peek] at h
  | yld => cases k <;> simp [peek] at h
  | row o n a l cp hb hr =>
    cases k with
    | zero => simp [peek] at h
    | succ k =>
      simp only [peek] at h
      split at h
      · rename_i et sz xs fr hG
        split at h
        · rename_i hn
          split at h
          · rename_i ys is2 hp
            cases h
            have hr := (hr et sz xs fr hG).2 hn.symm
            have hobj := hI.obj o
            unfold ObjOK at hobj
            rw [hG] at hobj
            obtain ⟨h0, v, cs, g1, g2, g3, g4⟩ := hobj
            rw [hr] at g1; cases g1
            obtain ⟨p1, p2⟩ := peekL_some hp
            rcases g2.2 with ⟨g, g'⟩ | ⟨g, cap, cur, g', _, g5, g6, g7, g8, g9⟩
            · cases g
              have : ys = [] := List.eq_nil_of_length_eq_zero (by omega)
              subst this; exact .nil
            · cases g'
              have hlen : ys.length = xs.length := p1
              rcases Nat.eq_zero_or_pos ys.length with hy0 | hy0
              · have : ys = [] := List.eq_nil_of_length_eq_zero hy0
                subst this
                have : xs.length = 0 := by omega
                rw [this]; exact .empty ⟨g, 0, none⟩ cp
              · rw [← hlen]
                obtain ⟨_, _, _, _, cur', q1, q2, q3, q4⟩ := row_block hI hG hr
                have hM := memOf_of (ids := ids) hI.mem (hin o (by simp)) hr rfl q1
                have hel : ∀ (i : Nat) z, ys[i]? = some z → ∃ y is3, xs[i]? = some y ∧ y.fits sz = true ∧ peek G k y = some (z, is3) ∧ ∀ o ∈ is3, o ∈ ids := by
                  intro i z hz
                  have hi := (List.getElem?_eq_some_iff.1 hz).1
                  obtain ⟨z', is3, e1, e2, e3⟩ := p2 i xs[i] (List.getElem?_eq_getElem (by omega))
                  rw [hz] at e2; cases e2
                  exact ⟨_, is3, List.getElem?_eq_getElem (by omega), q3 _ (List.getElem_mem _), e1, fun o ho => hin o (by simp [e3 o ho])⟩
                refine .lst ys g 0 cp cur' et (0, 0) sz (fun e => by subst e; simp at hy0) (by omega) hM h0 (fun i z hz => ?_) ?_ fun i z j u hz hu => ?_
                · obtain ⟨y, is3, e1, e2, e3, e4⟩ := hel i z hz
                  exact (peek_cells e3 e2).1
                · rw [q2, Nat.zero_add]; exact Nat.mul_le_mul_right _ (by omega)
                · obtain ⟨y, is3, e1, e2, e3, e4⟩ := hel i z hz
                  obtain ⟨yj, is4, k', f1, f2, f3, f4⟩ := (peek_cells e3 e2).2 j u hu
                  rw [Nat.zero_add]
                  exact ih k' (by omega) _ _ _ _ f3 (fun o ho => e4 o (f4 o ho)) (q4 i y j yj e1 f1)
          · cases h
        · cases h
      · cases h
  | ptr o off b hr =>
    cases k with
    | zero => simp [peek] at h
    | succ k =>
      simp only [peek] at h
      split at h
      · rename_i cs fr hG
        split at h
        · rename_i l is2 hp
          cases h
          have hobj := hI.obj o
          unfold ObjOK at hobj
          rw [hG] at hobj
          obtain ⟨b', vs, e', g1, g2, g3, g4⟩ := hobj
          rw [hr] at g1; cases g1
          have hM := memOf_of (ids := ids) hI.mem (hin o (by simp)) hr rfl g2
          obtain ⟨q1, q2⟩ := list k cs l is2 vs (by omega) hp (fun o ho => hin o (by simp [ho])) g3.1 g3.2
          have := VI.fptr (M := memOf w M ρ ids) l off b vs e' (0, 0) 0 hM (by omega) (fun j y hy => by rw [Nat.zero_add]; exact q2 j y hy)
          rwa [Nat.zero_add] at this
        · cases h
      · cases h
  | map o b hr =>
    cases k with
    | zero => simp [peek] at h
    | succ k =>
      simp only [peek] at h
      split at h
      · rename_i ks vs fr hG
        split at h
        · rename_i l is2 hp
          cases h
          have hobj := hI.obj o
          unfold ObjOK at hobj
          rw [hG] at hobj
          obtain ⟨b', es, clk, g1, g2, g3, g4, g5, g6, g7, g8⟩ := hobj
          rw [hr] at g1; cases g1
          have hM := memOf_of (ids := ids) hI.mem (hin o (by simp)) hr rfl g2
          obtain ⟨p1, p2⟩ := peekL_some hp
          refine .fmp ks l b es clk hM g3 (by omega) (fun i x hx => (g5 i x hx).mono hle) (fun i x hx => ?_) g8
          have hi := (List.getElem?_eq_some_iff.1 hx).1
          obtain ⟨x', is3, e1, e2, e3⟩ := p2 i vs[i] (List.getElem?_eq_getElem (by omega))
          rw [hx] at e2; cases e2
          exact ih k (by omega) _ _ _ _ e1 (fun o ho => hin o (by simp [e3 o ho])) (g6 i _ (List.getElem?_eq_getElem (by omega)))
        · cases h
      · cases h
  | fn f cap vs h1 h2 =>
    cases k with
    | zero => simp [peek] at h
    | succ k =>
      simp only [peek] at h
      split at h
      · rename_i l is2 hp
        cases h
        obtain ⟨q1, q2⟩ := list k cap l _ vs (by omega) hp hin h1 h2
        exact .fn f l vs q1 q2
      · cases h
  | agg xs vs h1 h2 =>
    cases k with
    | zero => simp [peek] at h
    | succ k =>
      simp only [peek] at h
      split at h
      · rename_i l is2 hp
        cases h
        obtain ⟨q1, q2⟩ := list k xs l _ vs (by omega) hp hin h1 h2
        exact .agg l vs q1 q2
      · cases h
  | tup xs vs h1 h2 =>
    cases k with
    | zero => simp [peek] at h
    | succ k =>
      simp only [peek] at h
      split at h
      · rename_i l is2 hp
        cases h
        obtain ⟨q1, q2⟩ := list k xs l _ vs (by omega) hp hin h1 h2
        exact .tup l vs q1 q2
      · cases h

/-- An object that data may lead to. -/
def _root_.Go.Abs.Obj.data : Obj → Bool
  | .box .. | .row .. | .mp .. => true
  | _ => false

theorem data_live {x : Obj} (h : x.data = true) : x.live = true := by cases x <;> simp_all [Obj.data, Obj.live]

/-- The objects that a value leads to are live. -/
theorem peek_live : ∀ (k : Nat) (v : AV) (x : IV) (is : List Nat), peek G k v = some (x, is) → ∀ o ∈ is, (G o).data = true := by
  intro k
  induction k with
  | zero =>
    intro v x is h
    cases v <;> simp [peek] at h
    · obtain ⟨_, rfl⟩ := h; intro o ho; simp at ho
    · obtain ⟨_, rfl⟩ := h; intro o ho; simp at ho
  | succ k ih =>
    have list : ∀ (l : List AV) (xs : List IV) (is' : List Nat), peekL (peek G k) l = some (xs, is') → ∀ o ∈ is', (G o).data = true := by
      intro l
      induction l with
      | nil => intro xs is' h; simp [peekL] at h; obtain ⟨_, rfl⟩ := h; intro o ho; simp at ho
      | cons v r ihl =>
        intro xs is' h
        simp only [peekL] at h
        split at h
        · rename_i x i hf
          split at h
          · rename_i l' ids' hl
            cases h
            intro o ho
            rcases List.mem_append.1 ho with ho | ho
            · exact ih _ _ _ hf o ho
            · exact ihl _ _ hl o ho
          · cases h
        · cases h
    intro v x is h
    cases v with
    | imm y => simp [peek] at h; obtain ⟨_, rfl⟩ := h; intro o ho; simp at ho
    | nils => simp [peek] at h; obtain ⟨_, rfl⟩ := h; intro o ho; simp at ho
    | undef => simp [peek] at h
    | rptr => simp [peek] at h
    | yld => simp [peek] at h
    | row q n =>
      simp only [peek] at h
      split at h
      · rename_i hG
        split at h
        · split at h
          · rename_i hp
            cases h
            intro o ho
            rcases List.mem_cons.1 ho with rfl | ho
            · rw [hG]; rfl
            · exact list _ _ _ hp o ho
          · cases h
        · cases h
      · cases h
    | map q =>
      simp only [peek] at h
      split at h
      · rename_i hG
        split at h
        · rename_i hp
          cases h
          intro o ho
          rcases List.mem_cons.1 ho with rfl | ho
          · rw [hG]; rfl
          · exact list _ _ _ hp o ho
        · cases h
      · cases h
    | ptr q off =>
      simp only [peek] at h
      split at h
      · rename_i hG
        split at h
        · rename_i hp
          cases h
          intro o ho
          rcases List.mem_cons.1 ho with rfl | ho
          · rw [hG]; rfl
          · exact list _ _ _ hp o ho
        · cases h
      · cases h
    | fn f cap =>
      simp only [peek] at h
      split at h
      · rename_i hp; cases h; exact list _ _ _ hp
      · cases h
    | agg cs =>
      simp only [peek] at h
      split at h
      · rename_i hp; cases h; exact list _ _ _ hp
      · cases h
    | tup cs =>
      simp only [peek] at h
      split at h
      · rename_i hp; cases h; exact list _ _ _ hp
      · cases h

/-! ### freezing -/
theorem freeze_freeze (x : Obj) : x.freeze.freeze = x.freeze := by cases x <;> rfl
theorem freeze_live (x : Obj) : x.freeze.live = x.live := by cases x <;> rfl

theorem updL_frz (ids : List Nat) : ∀ (G : Nat → Obj) (o : Nat), updL G (frz ids) o = if o ∈ ids then (G o).freeze else G o := by
  induction ids with
  | nil => intro G o; simp [frz, updL]
  | cons i r ih =>
    intro G o
    have : updL G (frz (i :: r)) = updL (upd G i (G i).freeze) (frz r) := rfl
    rw [this, ih]
    by_cases h : o = i
    · subst h
      simp [upd, freeze_freeze]
    · by_cases h2 : o ∈ r <;> simp [upd, h, h2]

theorem updL_append (G : Nat → Obj) (a b : List (Nat × U)) : updL G (a ++ b) = updL (updL G a) b := by
  induction a generalizing G with
  | nil => rfl
  | cons x r ih => obtain ⟨o, u⟩ := x; exact ih _

theorem Ev.frz (w : World) (M : Mem) (ρ : Ref) (G : Nat → Obj) (ids : List Nat) : Ev M ρ G (memOf w M ρ ids) ρ (updL G (frz ids)) := by
  refine ⟨memOf_le w M ρ ids, fun o v h => .inl h, fun o hb et sz xs fr h => ?_⟩
  rw [updL_frz] at h
  split at h
  · cases e : G o <;> rw [e] at h <;> simp only [Obj.freeze, reduceCtorEq, Obj.row.injEq] at h
    obtain ⟨rfl, rfl, rfl, rfl⟩ := h
    exact ⟨_, _, rfl, Nat.le_refl _, fun _ => rfl⟩
  · exact ⟨xs, fr, h, Nat.le_refl _, fun _ => rfl⟩

/-- What values lead to, is frozen. -/
theorem Inv.frz (hI : Inv Q w M ρ G nx) {ids : List Nat} (hl : ∀ o ∈ ids, (G o).data = true) : Inv Q w (memOf w M ρ ids) ρ (updL G (frz ids)) nx := by
  have hE := Ev.frz w M ρ G ids
  have hlive : ∀ o, (updL G (Go.Abs.frz ids) o).live = (G o).live := fun o => by rw [updL_frz]; split <;> simp [freeze_live]
  refine ⟨fun b o h => memOf_mem hI.mem h, fun o => ?_, hI.free, fun o ho => ?_, fun o o' v v' b h1 h2 => hI.sep o o' v v' b (by rw [hlive] at h1; exact h1) (by rw [hlive] at h2; exact h2), fun o v b h1 h2 h3 h4 => ?_, hI.new⟩
  · by_cases ho : o ∈ ids
    · have hobj := hI.obj o
      unfold ObjOK at *
      rw [updL_frz, if_pos ho]
      cases e : G o with
      | gone => trivial
      | box cs fr =>
        rw [e] at hobj
        obtain ⟨b, vs, e', g1, g2, g3, g4⟩ := hobj
        exact ⟨b, vs, e', g1, g2, g3.imp fun _ _ => VA.mono hE, fun _ => by rw [memOf_of hI.mem ho g1 rfl g2]; simp⟩
      | row et sz xs fr =>
        rw [e] at hobj
        obtain ⟨h0, v, cs, g1, g2, g3, g4⟩ := hobj
        refine ⟨h0, v, cs, g1, g2, g3.mono hE, fun _ b hb => ?_⟩
        rcases g2.2 with ⟨rfl, _⟩ | ⟨g, cap, cur, rfl, _, g5, _⟩
        · simp [blk] at hb
        · simp [blk] at hb; subst hb; rw [memOf_of hI.mem ho g1 rfl g5]; simp
      | mp ks vs fr =>
        rw [e] at hobj
        obtain ⟨b, es, clk, g1, g2, g3, g4, g5, g6, g7, g8⟩ := hobj
        exact ⟨b, es, clk, g1, g2, g3, g4, fun i x hx => (g5 i x hx).mono hE.mem, fun i x hx => (g6 i x hx).mono hE, (fun _ => by rw [memOf_of hI.mem ho g1 rfl g2]; simp), g8⟩
      | it ks vs done => have := hl o ho; rw [e] at this; cases this
      | lp tmps nt params assign body fn st pending =>
        rw [e] at hobj
        obtain ⟨l, r, g1, g2, g3⟩ := hobj
        exact ⟨l, r, g1, g2, { g3 with tmps := fun t => (g3.tmps t).mono hE }⟩
    · exact (hI.obj o).mono (by rw [updL_frz, if_neg ho]) rfl hE fun _ _ _ _ => rfl
  · rw [updL_frz, hI.gone o ho]; split <;> rfl
  · have hnin : o ∉ ids := by
      intro ho
      rw [updL_frz, if_pos ho] at h2
      have hd := hl o ho
      cases e : G o <;> rw [e] at hd h2 <;> simp [Obj.freeze, Obj.frozen, Obj.data] at hd h2
    rw [updL_frz, if_neg hnin] at h1 h2
    obtain ⟨g1, g2⟩ := hI.own o v b h1 h2 h3 h4
    refine ⟨?_, g2⟩
    cases e : memOf w M ρ ids b with
    | none => rfl
    | some x =>
      rcases memOf_ne (by rw [e]; simp) with h | ⟨o', ho', v', hv', hb'⟩
      · exact absurd g1 h
      · exact absurd (hI.sep o o' v v' b h1 (data_live (hl o' ho')) h3 hv' h4 hb') (fun e => hnin (e ▸ ho'))

theorem MQ.memOf (hI : Inv Q w M ρ G nx) {ids : List Nat} (hl : ∀ o ∈ ids, (G o).data = true) : MQ Q M (Go.Abs.memOf w M ρ ids) := by
  intro b hb
  rcases memOf_ne hb with h | ⟨o, ho, v, hv, hb'⟩
  · exact .inl h
  · by_cases hfr : (G o).frozen = true
    · left
      have hobj := hI.obj o
      unfold ObjOK at hobj
      cases e : G o with
      | gone => rw [e] at hfr; cases hfr
      | box cs fr =>
        rw [e] at hobj hfr
        obtain ⟨b', vs, e', g1, g2, g3, g4⟩ := hobj
        rw [hv] at g1; cases g1
        simp [blk] at hb'; subst hb'
        exact g4 hfr
      | row et sz xs fr =>
        rw [e] at hobj hfr
        obtain ⟨h0, v', cs, g1, g2, g3, g4⟩ := hobj
        rw [hv] at g1; cases g1
        exact g4 hfr b hb'
      | mp ks vs fr =>
        rw [e] at hobj hfr
        obtain ⟨b', es, clk, g1, g2, g3, g4, g5, g6, g7, g8⟩ := hobj
        rw [hv] at g1; cases g1
        simp [blk] at hb'; subst hb'
        exact g7 hfr
      | it => rw [e] at hfr; cases hfr
      | lp => rw [e] at hfr; cases hfr
    · exact .inr (hI.own o v b (data_live (hl o ho)) (by simpa using hfr) hv hb').2

/-- A value is handed on as data. -/
theorem good_give {ids : List Nat} {small : Bool} {x : IV} {c : Value} {v' : AV} {ups : List (Nat × U)} {r : Result Next} (hI : Inv Q w M ρ G nx) (hl : ∀ o ∈ ids, (G o).data = true)
    (hg : give ids small (.imm x) = .val v' ups) (hs : small = true → x.scalar = true) (hx : VI (memOf w M ρ ids) x c) (hr : r = .ok (.value c) w) : Good id Q M ρ G nx w (updL G ups) v' r := by
  unfold give at hg
  split at hg
  · rename_i h
    cases hg
    exact Good.pure hI hr (.imm _ _ (hx.any (hs h) M))
  · cases hg
    exact ⟨_, c, w, memOf w M ρ ids, ρ, hr, .inl rfl, Ev.frz w M ρ G ids, hI.frz hl, .imm _ _ hx, WS.refl _ _, MQ.memOf hI hl, fun _ _ e => e⟩

end Go.Abs
