/- The abstract interpreter: what an operation depends on. -/
import Derived.Test.YtpkmljhdaijanaaAbsRun
import Derived.Test.YtpkmljhdaijanaaAbsPeek
namespace Go.Abs

variable {G G' : Nat → Obj} {C : Cfg} {L : Low}

/-- Two stores that are alike at some objects, but for what is frozen. -/
def Same (G G' : Nat → Obj) (l : List Nat) : Prop := ∀ q ∈ l, (G q).freeze = (G' q).freeze

theorem Same.mono {l l' : List Nat} (h : Same G G' l) (hs : ∀ q ∈ l', q ∈ l) : Same G G' l' := fun q hq => h q (hs q hq)

theorem row_same {o : Nat} {et : TypeId} {sz : Nat} {xs : List AV} {fr : Bool} (h : (G o).freeze = (G' o).freeze) (e : G o = .row et sz xs fr) : ∃ fr', G' o = .row et sz xs fr' := by
  rw [e] at h
  cases e' : G' o <;> rw [e'] at h <;> simp only [Obj.freeze, reduceCtorEq, Obj.row.injEq] at h
  obtain ⟨rfl, rfl, rfl, _⟩ := h
  exact ⟨_, rfl⟩

theorem box_same {o : Nat} {cs : List AV} {fr : Bool} (h : (G o).freeze = (G' o).freeze) (e : G o = .box cs fr) : ∃ fr', G' o = .box cs fr' := by
  rw [e] at h
  cases e' : G' o <;> rw [e'] at h <;> simp only [Obj.freeze, reduceCtorEq, Obj.box.injEq] at h
  obtain ⟨rfl, _⟩ := h
  exact ⟨_, rfl⟩

theorem mp_same {o : Nat} {ks : List IV} {vs : List AV} {fr : Bool} (h : (G o).freeze = (G' o).freeze) (e : G o = .mp ks vs fr) : ∃ fr', G' o = .mp ks vs fr' := by
  rw [e] at h
  cases e' : G' o <;> rw [e'] at h <;> simp only [Obj.freeze, reduceCtorEq, Obj.mp.injEq] at h
  obtain ⟨rfl, rfl, _⟩ := h
  exact ⟨_, rfl⟩

theorem it_same {o : Nat} {ks vs : List IV} {d : Bool} (h : (G o).freeze = (G' o).freeze) (e : G o = .it ks vs d) : G' o = .it ks vs d := by
  rw [e] at h
  cases e' : G' o <;> rw [e'] at h <;> simp only [Obj.freeze, reduceCtorEq, Obj.it.injEq] at h
  obtain ⟨rfl, rfl, rfl⟩ := h
  rfl

theorem aNext_congr {s s' : St} {a : AV} {b : Bool} {ef : Ef} (h : Same s.G s'.G (direct a)) (hr : aNext s a b = some ef) : aNext s' a b = some ef := by
  unfold aNext at hr ⊢
  split at hr
  · rename_i q
    have h := h q (by simp [direct])
    split at hr
    · rename_i e; rw [it_same h e]; exact hr
    · rename_i ks vs _ e; rw [it_same h e]
      cases ks <;> exact hr
    · rename_i e; rw [it_same h e]; exact hr
    · cases hr
  · cases hr

theorem aEntry_congr {a : AV} {ef : Ef} (h : Same G G' (direct a)) (hr : aEntry G a = some ef) : aEntry G' a = some ef := by
  unfold aEntry at hr ⊢
  split at hr
  · rename_i q
    have h := h q (by simp [direct])
    split at hr
    · rename_i e; rw [it_same h e]; exact hr
    · cases hr
  · cases hr

theorem readAt_congr {n : Nat} {a : AV} {r : List AV} (h : Same G G' (direct a)) (hr : readAt G n a = some r) : readAt G' n a = some r := by
  unfold readAt at hr ⊢
  cases a with
  | ptr o off =>
    have h := h o (by simp [direct])
    simp only at hr ⊢
    split at hr
    · rename_i cs fr e; obtain ⟨fr', e'⟩ := box_same h e; rw [e']; exact hr
    · cases hr
  | rptr o m i off =>
    have h := h o (by simp [direct])
    simp only at hr ⊢
    split at hr
    · rename_i et sz xs fr e; obtain ⟨fr', e'⟩ := row_same h e; rw [e']; exact hr
    · cases hr
  | imm v => cases v <;> exact hr
  | _ => exact hr

theorem elems_congr {a : AV} {r : List AV} (h : Same G G' (direct a)) (hr : elems G a = some r) : elems G' a = some r := by
  unfold elems at hr ⊢
  cases a with
  | row o n =>
    have h := h o (by simp [direct])
    simp only at hr ⊢
    split at hr
    · rename_i et sz xs fr e; obtain ⟨fr', e'⟩ := row_same h e; rw [e']; exact hr
    · cases hr
  | imm v => cases v <;> exact hr
  | _ => exact hr

theorem elemAddr_congr {sz n : Nat} {a r : AV} (h : Same G G' (direct a)) (hr : elemAddr G sz a n = some r) : elemAddr G' sz a n = some r := by
  unfold elemAddr at hr ⊢
  cases a with
  | row o m =>
    have h := h o (by simp [direct])
    simp only at hr ⊢
    split at hr
    · rename_i et sz xs fr e; obtain ⟨fr', e'⟩ := row_same h e; rw [e']; exact hr
    · cases hr
  | imm v => cases v <;> exact hr
  | _ => exact hr

theorem lenA_congr {d : TyD} {a : AV} {n : Nat} (h : Same G G' (direct a)) (hr : lenA G d a = some n) : lenA G' d a = some n := by
  unfold lenA at hr ⊢
  cases d with
  | sl t =>
    simp only at hr ⊢
    split at hr
    · rename_i l e; rw [elems_congr h e]; exact hr
    · cases hr
  | mp k e =>
    cases a with
    | map o =>
      have h := h o (by simp [direct])
      simp only at hr ⊢
      split at hr
      · rename_i ks vs fr e; obtain ⟨fr', e'⟩ := mp_same h e; rw [e']; exact hr
      · cases hr
    | imm v => cases v <;> exact hr
    | _ => exact hr
  | _ => exact hr

theorem mapKV_congr {a : AV} {r : List IV × List AV} (h : Same G G' (direct a)) (hr : mapKV G a = some r) : mapKV G' a = some r := by
  unfold mapKV at hr ⊢
  cases a with
  | map o =>
    have h := h o (by simp [direct])
    simp only at hr ⊢
    split at hr
    · rename_i ks vs fr e; obtain ⟨fr', e'⟩ := mp_same h e; rw [e']; exact hr
    · cases hr
  | imm v => cases v <;> exact hr
  | _ => exact hr

theorem peekL_congr {f g : AV → Option (IV × List Nat)} : ∀ {l : List AV} {r : List IV × List Nat}, (∀ x ∈ l, ∀ z, f x = some z → g x = some z) → peekL f l = some r → peekL g l = some r
  | [], r, _, h => h
  | x :: l, r, hfg, h => by
    simp only [peekL] at h ⊢
    split at h
    · rename_i y i hy
      split at h
      · rename_i ys ids hys
        rw [hfg x (by simp) _ hy, peekL_congr (fun z hz => hfg z (by simp [hz])) hys]
        exact h
      · cases h
    · cases h

theorem peek_congr : ∀ (k : Nat) (a : AV) (r : IV × List Nat), Same G G' (touch G k a) → peek G k a = some r → peek G' k a = some r := by
  intro k
  induction k with
  | zero => intro a r _ h; cases a <;> simp only [peek, reduceCtorEq] at h ⊢ <;> exact h
  | succ k ih =>
    intro a r hs h
    have list : ∀ (l : List AV) (z : List IV × List Nat), Same G G' (l.flatMap (touch G k)) → peekL (peek G k) l = some z → peekL (peek G' k) l = some z := fun l z hl hz =>
      peekL_congr (fun x hx z hz => ih x z (hl.mono fun q hq => List.mem_flatMap.2 ⟨x, hx, hq⟩) hz) hz
    cases a with
    | row o n =>
      simp only [peek] at h ⊢
      simp only [touch] at hs
      split at h
      · rename_i et sz xs fr e
        obtain ⟨fr', e'⟩ := row_same (hs o (by simp)) e
        rw [e'] at *
        rw [e] at hs
        split at h
        · rename_i hn
          simp only [hn, if_true]
          split at h
          · rename_i l ids hl
            rw [list _ _ (hs.mono fun q hq => by simp [hq]) hl]
            exact h
          · cases h
        · cases h
      · cases h
    | map o =>
      simp only [peek] at h ⊢
      simp only [touch] at hs
      split at h
      · rename_i ks vs fr e
        obtain ⟨fr', e'⟩ := mp_same (hs o (by simp)) e
        rw [e'] at *
        rw [e] at hs
        split at h
        · rename_i l ids hl
          simp only [list _ _ (hs.mono fun q hq => by simp [hq]) hl]
          exact h
        · cases h
      · cases h
    | ptr o off =>
      simp only [peek] at h ⊢
      simp only [touch] at hs
      split at h
      · rename_i cs fr e
        obtain ⟨fr', e'⟩ := box_same (hs o (by simp)) e
        rw [e'] at *
        rw [e] at hs
        split at h
        · rename_i l ids hl
          simp only [list _ _ (hs.mono fun q hq => by simp [hq]) hl]
          exact h
        · cases h
      · cases h
    | fn f cap =>
      simp only [peek] at h ⊢
      split at h
      · rename_i l ids hl; rw [list _ _ hs hl]; exact h
      · cases h
    | agg cs =>
      simp only [peek] at h ⊢
      split at h
      · rename_i l ids hl; rw [list _ _ hs hl]; exact h
      · cases h
    | tup cs =>
      simp only [peek] at h ⊢
      split at h
      · rename_i l ids hl; rw [list _ _ hs hl]; exact h
      · cases h
    | _ => simp only [peek, reduceCtorEq] at h ⊢ <;> exact h

/-- What is touched is the same. -/
theorem touch_congr : ∀ (k : Nat) (a : AV), Same G G' (touch G k a) → touch G' k a = touch G k a := by
  intro k
  induction k with
  | zero => intro a _; cases a <;> rfl
  | succ k ih =>
    intro a hs
    have list : ∀ (l : List AV), Same G G' (l.flatMap (touch G k)) → l.flatMap (touch G' k) = l.flatMap (touch G k) := fun l => by
      induction l with
      | nil => intro _; rfl
      | cons x l ihl =>
        intro hl
        simp only [List.flatMap_cons] at hl ⊢
        rw [ih x (hl.mono fun q hq => by simp [hq]), ihl (hl.mono fun q hq => List.mem_append_right _ hq)]
    cases a with
    | row o n =>
      simp only [touch] at hs ⊢
      have h0 := hs o (by simp)
      cases e : G o with
      | row et sz xs fr =>
        obtain ⟨fr', e'⟩ := row_same h0 e
        rw [e'] at *; rw [e] at hs
        simp only [list xs (hs.mono fun q hq => by simp [hq])]
      | _ => rw [e] at h0; cases e' : G' o <;> rw [e'] at h0 <;> simp [Obj.freeze] at h0 <;> rfl
    | rptr o n i off =>
      simp only [touch] at hs ⊢
      have h0 := hs o (by simp)
      cases e : G o with
      | row et sz xs fr =>
        obtain ⟨fr', e'⟩ := row_same h0 e
        rw [e'] at *; rw [e] at hs
        simp only [list xs (hs.mono fun q hq => by simp [hq])]
      | _ => rw [e] at h0; cases e' : G' o <;> rw [e'] at h0 <;> simp [Obj.freeze] at h0 <;> rfl
    | map o =>
      simp only [touch] at hs ⊢
      have h0 := hs o (by simp)
      cases e : G o with
      | mp ks vs fr =>
        obtain ⟨fr', e'⟩ := mp_same h0 e
        rw [e'] at *; rw [e] at hs
        simp only [list vs (hs.mono fun q hq => by simp [hq])]
      | _ => rw [e] at h0; cases e' : G' o <;> rw [e'] at h0 <;> simp [Obj.freeze] at h0 <;> rfl
    | ptr o off =>
      simp only [touch] at hs ⊢
      have h0 := hs o (by simp)
      cases e : G o with
      | box cs fr =>
        obtain ⟨fr', e'⟩ := box_same h0 e
        rw [e'] at *; rw [e] at hs
        simp only [list cs (hs.mono fun q hq => by simp [hq])]
      | _ => rw [e] at h0; cases e' : G' o <;> rw [e'] at h0 <;> simp [Obj.freeze] at h0 <;> rfl
    | fn f cs => exact list cs hs
    | agg cs => exact list cs hs
    | tup cs => exact list cs hs
    | _ => rfl

/-! ### operations -/
variable {id : Nat} {s s' : St} {v : AV} {ups : List (Nat × U)}

theorem aLoad_congr {t : TypeId} {a : AV} {ef : Ef} (h : Same G G' (direct a)) (hr : aLoad C G t a = some ef) : aLoad C G' t a = some ef := by
  unfold aLoad at hr ⊢
  split at hr
  · split at hr
    · rename_i cs e; rw [readAt_congr h e]; exact hr
    · cases hr
  · cases hr

theorem aConvert_congr {a b : TypeId} {x : AV} {ef : Ef} (h : Same G G' (direct x)) (hr : aConvert C G a b x = some ef) : aConvert C G' a b x = some ef := by
  unfold aConvert at hr ⊢
  split at hr
  · rename_i i j hi hj
    split at hr
    · exact hr
    · exact hr
    · rename_i hd hne
      split at hr
      · split at hr
        · split at hr
          · rename_i k2 xs e1 e2
            rw [elems_congr h e2]
            simp only [e1]
            exact hr
          · cases hr
        · cases hr
      · cases hr
    · cases hr
  · cases hr

theorem aIndexAddr_congr {t : TypeId} {x ix : AV} {ef : Ef} (h : Same G G' (direct x)) (hr : aIndexAddr C G t x ix = some ef) : aIndexAddr C G' t x ix = some ef := by
  unfold aIndexAddr at hr ⊢
  split at hr
  · split at hr
    · split at hr
      · split at hr
        · rename_i hn
          rw [if_pos hn]
          split at hr
          · rename_i z e; rw [elemAddr_congr h e]; exact hr
          · cases hr
        · cases hr
      · cases hr
    · exact hr
    · cases hr
  · cases hr

theorem lookA_congr {t : TypeId} {m k : AV} {ok : Bool} {ef : Ef} (h : Same G G' (direct m)) (hr : lookA C t G m k ok = some ef) : lookA C t G' m k ok = some ef := by
  unfold lookA at hr ⊢
  split at hr
  · split at hr
    · split at hr
      · rename_i e1 e2 e3; rw [mapKV_congr h e2, e3]; exact hr
      · cases hr
    · cases hr
  · cases hr

theorem aStore_congr {t : TypeId} {a x : AV} (hr : aStore C s t a x = some (.val v ups)) (hw : ∀ q ∈ wrOf ups, s'.G q = s.G q) : aStore C s' t a x = some (.val v ups) := by
  unfold aStore at hr ⊢
  split at hr
  · split at hr
    · rename_i hf
      rw [if_pos hf]
      split at hr
      · rename_i q off
        split at hr
        · rename_i old e
          split at hr
          · rename_i hb
            have hq : s'.G q = s.G q := hw q (by cases hr; simp [wrOf])
            rw [hq, e]
            simp only [hb, if_true]
            exact hr
          · cases hr
        · cases hr
      · rename_i q n j off
        split at hr
        · rename_i et sz xs e
          split at hr
          · rename_i y hy
            split at hr
            · rename_i hb
              have hq : s'.G q = s.G q := hw q (by cases hr; simp [wrOf])
              rw [hq, e]
              simp only [hy, hb, and_self, if_true]
              exact hr
            · cases hr
          · cases hr
        · cases hr
      · cases hr
    · cases hr
  · cases hr

theorem aMapUpdate_congr {t : TypeId} {m k x : AV} (hr : aMapUpdate C s t m k x = some (.val v ups)) (hw : ∀ q ∈ wrOf ups, s'.G q = s.G q) : aMapUpdate C s' t m k x = some (.val v ups) := by
  unfold aMapUpdate at hr ⊢
  split at hr
  · rename_i i q key hi
    split at hr
    · rename_i kt e ks vs hd hG
      have hq : s'.G q = s.G q := hw q (by
        (repeat' split at hr) <;> first | (cases hr; simp [wrOf]) | cases hr)
      rw [hq, hG, hd]
      exact hr
    · cases hr
  · cases hr

theorem aSlice_congr {t : TypeId} {x : AV} {lo hi : Option AV} {ef : Ef} (h : Same s.G s'.G (touch s.G pkDepth x)) (hr : aSlice C s t x lo hi = some ef) : aSlice C s' t x lo hi = some ef := by
  unfold aSlice at hr ⊢
  split at hr
  · split at hr
    · exact hr
    · split at hr
      · rename_i e1 e2; rw [peek_congr _ _ _ h e1, e2]; exact hr
      · cases hr
    · cases hr
  · cases hr

theorem aAppend_congr {t u : TypeId} {a x : AV} (h : Same s.G s'.G (direct x)) (hr : aAppend C s id t u a x = some (.val v ups)) (hw : ∀ q ∈ wrOf ups, s'.G q = s.G q) : aAppend C s' id t u a x = some (.val v ups) := by
  unfold aAppend at hr ⊢
  split at hr
  · rename_i k ys hk hys
    rw [elems_congr h hys, hk]
    dsimp only
    split at hr
    · rename_i et hd
      try simp only [hd]
      split at hr
      · rename_i i hi
        try simp only [hi]
        split at hr
        · rename_i hc
          rw [if_pos hc]
          split at hr
          · exact hr
          · rename_i q n
            split at hr
            · rename_i et' sz xs e
              split at hr
              · rename_i hb
                have hq : s'.G q = s.G q := hw q (by cases hr; simp [wrOf])
                simp only [hq, e]
                rw [if_pos hb]
                exact hr
              · cases hr
            · cases hr
          · cases hr
        · cases hr
      · cases hr
    · cases hr
  · cases hr

theorem aBuiltin_congr {b : Builtin} {tys : List TypeId} {args : List AV} (hrec : s'.pk = s.pk) (h : Same s.G s'.G (args.flatMap direct)) (hr : aBuiltin C s id b tys args = some (.val v ups)) (hw : ∀ q ∈ wrOf ups, s'.G q = s.G q) :
    aBuiltin C s' id b tys args = some (.val v ups) := by
  unfold aBuiltin at hr ⊢
  split at hr
  · split at hr
    · split at hr
      · split at hr
        · rename_i n e; rw [lenA_congr (h.mono fun q hq => by simp [hq]) e]; exact hr
        · cases hr
      · cases hr
    · cases hr
  · exact hr
  · exact hr
  · split at hr
    · exact aAppend_congr (h.mono fun q hq => by simp [hq]) hr hw
    · cases hr
  · rw [hrec]
    split at hr
    · cases hr
    · exact hr
    · cases hr
  · cases hr

theorem callA_congr {f : FuncId} {args : List AV} (h : Same s.G s'.G (args.flatMap (touch s.G pkDepth))) (hr : callA C L id s f args = some (.val v ups)) : callA C L id s' f args = some (.val v ups) := by
  unfold callA at hr ⊢
  split at hr
  · split at hr <;> cases hr
  · rename_i hb
    rw [if_neg hb]
    split at hr
    · cases hr
    · rename_i ivs ids hp
      have : peeks s'.G args = some (ivs, ids) := peekL_congr (fun x hx z hz => peek_congr _ _ _ (h.mono fun q hq => List.mem_flatMap.2 ⟨x, hx, hq⟩) hz) hp
      rw [this]
      dsimp only
      split at hr
      · exact hr
      · exact hr
      · split at hr
        · exact hr
        · split at hr <;> cases hr
        · cases hr

theorem opA_congr {o : Op} (h : opA C L id s o = some (.val v ups)) (hev : ∀ x ∈ o.operands, ev s'.tmps x = ev s.tmps x) (hrd : Same s.G s'.G (readsOf s o)) (hwr : ∀ q ∈ wrOf ups, s'.G q = s.G q) (hpk : s'.pk = s.pk) :
    opA C L id s' o = some (.val v ups) := by
  have parts : ∀ ps : Array (Nat × Operand), (∀ x ∈ (ps.toList.map (·.2)).toArray, ev s'.tmps x = ev s.tmps x) → (ps.toList.map fun p => (p.1, ev s'.tmps p.2)) = ps.toList.map fun p => (p.1, ev s.tmps p.2) := fun ps hps =>
    List.map_congr_left fun p hp => by rw [hps p.2 (by simpa using ⟨p.1, by simpa using hp⟩)]
  have one : ∀ a : AV, Same s.G s'.G ([a].flatMap direct) → Same s.G s'.G (direct a) := fun a h => h.mono fun q hq => by simp [hq]
  unfold opA at h ⊢
  cases o <;> simp only [Op.operands, Call.operands] at hev
  case move x => simp only at h ⊢; rw [hev x (by simp)]; exact h
  case assign x => simp only at h ⊢; rw [hev x (by simp)]; exact h
  case pick c a b => simp only at h ⊢; rw [hev c (by simp), hev a (by simp), hev b (by simp)]; exact h
  case alloc t => exact h
  case box t x => simp only at h ⊢; rw [hev x (by simp)]; exact h
  case build t ps => simp only at h ⊢; rw [parts ps hev]; exact h
  case buildSlice t n ps => simp only at h ⊢; rw [parts ps hev]; exact h
  case makeSlice t l c => simp only at h ⊢; rw [hev l (by simp), hev c (by simp)]; exact h
  case load t a => simp only at h ⊢; rw [hev a (by simp)]; exact aLoad_congr (hrd.mono fun q hq => by simpa [readsOf, pureOp, Op.operands] using hq) h
  case store t a x => simp only at h ⊢; rw [hev a (by simp), hev x (by simp)]; exact aStore_congr h hwr
  case nilCheck x => simp only at h ⊢; rw [hev x (by simp)]; exact h
  case binOp op t x y z => simp only at h ⊢; rw [hev x (by simp), hev y (by simp)]; exact h
  case unOp op t x => simp only at h ⊢; rw [hev x (by simp)]; exact h
  case convert a b x => simp only at h ⊢; rw [hev x (by simp)]; exact aConvert_congr (hrd.mono fun q hq => by simpa [readsOf, pureOp, Op.operands] using hq) h
  case makeInterface t x => simp only at h ⊢; rw [hev x (by simp)]; exact h
  case makeFunc f first cap =>
    simp only at h ⊢
    rw [List.map_congr_left fun x hx => hev x (by simp; right; simpa using hx)]
    exact h
  case makeMap t r => cases r <;> exact h
  case fieldAddr t x f => simp only at h ⊢; rw [hev x (by simp)]; exact h
  case indexAddr t x ix =>
    simp only at h ⊢; rw [hev x (by simp), hev ix (by simp)]
    exact aIndexAddr_congr (hrd.mono fun q hq => by simp [readsOf, pureOp, Op.operands]; exact .inl hq) h
  case index t x ix => simp only at h ⊢; rw [hev x (by simp), hev ix (by simp)]; exact h
  case lookup t m k ok =>
    simp only at h ⊢; rw [hev m (by simp), hev k (by simp)]
    exact lookA_congr (hrd.mono fun q hq => by simp [readsOf, pureOp, Op.operands]; exact .inl hq) h
  case mapUpdate t m k x => simp only at h ⊢; rw [hev m (by simp), hev k (by simp), hev x (by simp)]; exact aMapUpdate_congr h hwr
  case insert t m k x => simp only at h ⊢; rw [hev m (by simp), hev k (by simp), hev x (by simp)]; exact aMapUpdate_congr h hwr
  case extract x i => simp only at h ⊢; rw [hev x (by simp)]; exact h
  case range t x => simp only at h ⊢; rw [hev x (by simp)]; exact h
  case next x b => simp only at h ⊢; rw [hev x (by simp)]; exact aNext_congr (hrd.mono fun q hq => by simpa [readsOf, pureOp, Op.operands] using hq) h
  case entry x => simp only at h ⊢; rw [hev x (by simp)]; exact aEntry_congr (hrd.mono fun q hq => by simpa [readsOf, pureOp, Op.operands] using hq) h
  case slice t x lo hi mx =>
    cases mx with
    | some _ => cases h
    | none =>
      simp only at h ⊢
      have e1 : lo.map (ev s'.tmps) = lo.map (ev s.tmps) := by cases lo with
        | none => rfl
        | some y => simp only [Option.map_some]; rw [hev y (by simp)]
      have e2 : hi.map (ev s'.tmps) = hi.map (ev s.tmps) := by cases hi with
        | none => rfl
        | some y => simp only [Option.map_some]; rw [hev y (by simp)]
      rw [hev x (by simp), e1, e2]
      exact aSlice_congr (hrd.mono fun q hq => by simpa [readsOf, pureOp] using hq) h
  case typeAssert x t' t ok => simp only at h ⊢; rw [hev x (by simp)]; exact h
  case panic x => simp only at h; split at h <;> cases h
  case defer c => simp only at h; (repeat' split at h) <;> cases h
  case call c =>
    obtain ⟨callee, args, ats⟩ := c
    simp only at hev
    have eargs : args.toList.map (ev s'.tmps) = args.toList.map (ev s.tmps) := List.map_congr_left fun x hx => hev x (by simp; right; simpa using hx)
    cases callee with
    | builtin b =>
      simp only at h ⊢
      rw [eargs]
      exact aBuiltin_congr hpk (hrd.mono fun q hq => by simpa [readsOf, pureOp, List.flatMap_map] using hq) h hwr
    | value f =>
      simp only at h ⊢
      rw [eargs, hev f (by simp)]
      unfold aCall at h ⊢
      split at h
      · split at h <;> cases h
      · rename_i hny
        split at h
        · rename_i k cap hfn
          have hc := callA_congr (hrd.mono fun q hq => by simpa [readsOf, pureOp, hfn] using hq) h
          exact hc
        · cases h
    | _ => cases h
  all_goals cases h

end Go.Abs
