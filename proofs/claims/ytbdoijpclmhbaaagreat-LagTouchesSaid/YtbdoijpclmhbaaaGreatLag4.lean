/- The abstract interpreter: operations on values alone. -/
import Derived.Test.YtbdoijpclmhbaaaGreatLag3
import Derived.DeepKeys
import Derived.Laws.BytesString
import Derived.Maps.RangeRun
import Derived.AtR
import Derived.Defers
import Derived.RangeFuncIn
import Derived.RangeFuncLeaves
namespace Go.Abs
variable {id : Nat}
variable {M M' : Mem} {ρ ρ' : Ref} {G G' : Nat → Obj} {w w' : World} {nx : Nat} {Q : Nat → Prop} {P : Program} {C : Cfg}
theorem intOp_ok {op : BinOp} {k : IntKind} {a b : Int} {x : IV} {t : TypeId} (h : intOp op k a b = some x) : ∃ u, (binOp op t (.int k a) (.int k b)).run P w = .ok u w ∧ VI M x u := by
  cases op <;> simp only [intOp, reduceCtorEq, Option.some.injEq] at h
  case quo => split at h
              · cases h
              · rename_i hb; cases h; exact ⟨_, by simp [binOp, Op.intDiv, hb], .int _ _⟩
  case rem => split at h
              · cases h
              · rename_i hb; cases h; exact ⟨_, by simp [binOp, Op.intDiv, hb], .int _ _⟩
  all_goals
    subst h
    first
    | exact ⟨_, by simp [binOp, Op.intArith], .int _ _⟩
    | exact ⟨_, by simp [binOp, Op.intCmp], .bool _⟩
theorem strOp_ok {op : BinOp} {a b : ByteArray} {x : IV} {t : TypeId} (h : strOp op a b = some x) : ∃ u, (binOp op t (.string a) (.string b)).run P w = .ok u w ∧ VI M x u := by
  cases op <;> simp only [strOp, reduceCtorEq, Option.some.injEq] at h
  case add =>
    split at h
    · rename_i hb
      cases h
      have hb' : ¬ (9223372036854775807 < (a.size : Int) + (b.size : Int)) := by omega
      exact ⟨_, by simp [binOp, Op.stringOp, hb'], .str _⟩
    · cases h
  all_goals
    subst h
    exact ⟨_, by simp [binOp, Op.stringOp], .bool _⟩
theorem equal_step (t : TypeId) (x y : Value) : Op.equal t x y = Op.equalIn (9999 + 1) t x y := rfl
theorem run_equal_bool {t : TypeId} {a b : Bool} (h : P.underlying t = some .bool) : (Op.equal t (.bool a) (.bool b)).run P w = .ok (a == b) w := by
  rw [equal_step, Op.equalIn]; simp only [Sem.run_bind, run_underlying' h, Result.andThen_ok, Sem.run_pure]
theorem run_equal_nilp {t e : TypeId} {b : Option _} (h : P.underlying t = some (.pointer e)) : (Op.equal t (.pointer none) (.pointer b)).run P w = .ok b.isNone w := by
  rw [equal_step, Op.equalIn]; simp only [Sem.run_bind, run_underlying' h, Result.andThen_ok, Sem.run_pure]
theorem run_equal_pnil {t e : TypeId} {a : Addr} (h : P.underlying t = some (.pointer e)) : (Op.equal t (.pointer (some a)) (.pointer none)).run P w = .ok false w := by
  rw [equal_step, Op.equalIn]; simp only [Sem.run_bind, run_underlying' h, Result.andThen_ok, Sem.run_pure]
theorem run_equal_slnn {t e : TypeId} (h : P.underlying t = some (.slice e)) : (Op.equal t (.slice none 0 0) (.slice none 0 0)).run P w = .ok true w := by
  rw [equal_step, Op.equalIn]; simp only [Sem.run_bind, run_underlying' h, Result.andThen_ok, Sem.run_pure]; rfl
theorem run_equal_slpn {t e : TypeId} {a : Addr} {n c : Nat} (h : P.underlying t = some (.slice e)) : (Op.equal t (.slice (some a) n c) (.slice none 0 0)).run P w = .ok false w := by
  rw [equal_step, Op.equalIn]; simp only [Sem.run_bind, run_underlying' h, Result.andThen_ok, Sem.run_pure]
theorem run_equal_ifnn {t : TypeId} {ms} (h : P.underlying t = some (.interface ms)) : (Op.equal t .nilIface .nilIface).run P w = .ok true w := by
  rw [equal_step, Op.equalIn]; simp only [Sem.run_bind, run_underlying' h, Result.andThen_ok, Sem.run_pure]
theorem run_equal_ifni {t : TypeId} {ms u v} (h : P.underlying t = some (.interface ms)) : (Op.equal t .nilIface (.iface u v)).run P w = .ok false w := by
  rw [equal_step, Op.equalIn]; simp only [Sem.run_bind, run_underlying' h, Result.andThen_ok, Sem.run_pure]
theorem run_equal_ifin {t : TypeId} {ms u v} (h : P.underlying t = some (.interface ms)) : (Op.equal t (.iface u v) .nilIface).run P w = .ok false w := by
  rw [equal_step, Op.equalIn]; simp only [Sem.run_bind, run_underlying' h, Result.andThen_ok, Sem.run_pure]
theorem vsOf_ok {M : Mem} : ∀ {xs : List IV} {vs : Array Value} {us : List Value}, vsOf xs = some us → xs.length = vs.size → (∀ (i : Nat) x, xs[i]? = some x → VI M x (at_ vs i)) → vs.toList = us := by
  intro xs vs us h hl hx
  have key : ∀ (xs : List IV) (us : List Value) (l : List Value), vsOf xs = some us → xs.length = l.length → (∀ (i : Nat) x, xs[i]? = some x → VI M x (l.getD i Go.undef)) → l = us := by
    intro xs
    induction xs with
    | nil =>
      intro us l h hl _
      cases h
      exact List.eq_nil_of_length_eq_zero (by simpa using hl.symm)
    | cons x r ih =>
      intro us l h hl hx
      unfold vsOf at h
      split at h
      · rename_i v l' hv hl'
        cases h
        cases l with
        | nil => simp at hl
        | cons c l =>
          have h0 := hx 0 x rfl
          have hr := ih l' l hl' (by simpa using hl) fun i y hy => by simpa using hx (i + 1) y (by simpa using hy)
          subst hr
          congr 1
          have h0 : VI M x c := h0
          cases x <;> simp only [vOf, Option.some.injEq, reduceCtorEq] at hv
          all_goals
            subst hv
            cases h0
            rfl
      · cases h
  refine key xs us vs.toList h (by simpa using hl) fun i x hi => ?_
  have := hx i x hi
  simpa [at_, Array.getD_eq_getD_getElem?, List.getD_eq_getElem?_getD] using this
theorem keyLits_len {P : Program} {n : Nat} {t : TypeId} {fs : Array Field} {cs : List Value} {l : List Lit} (hu : P.underlying t = some (.struct fs)) (h : P.keyLits (n + 1) t cs = some l) : cs.length = P.cellsOf t := by
  unfold Program.keyLits at h
  simp only [hu] at h
  split at h
  · rename_i hc; exact hc.1
  · cases h
theorem litEq_iff : ∀ {a b : Lit} {r : Bool}, litEq a b = some r → (r = true ↔ a = b) := by
  intro a b r h
  cases a <;> cases b <;> simp only [litEq, Option.some.injEq, reduceCtorEq] at h
  all_goals
    subst h
    simp
theorem litsEq_iff : ∀ {a b : List Lit} {r : Bool}, litsEq a b = some r → (r = true ↔ a = b)
  | [], [], r, h => by cases h; simp
  | [], _ :: _, _, h => by cases h
  | _ :: _, [], _, h => by cases h
  | x :: a, y :: b, r, h => by
    unfold litsEq at h
    split at h
    · rename_i p q h1 h2
      cases h
      rw [Bool.and_eq_true, litEq_iff h1, litsEq_iff h2]
      simp
    · cases h
theorem eqSt_ok {P : Program} {M : Mem} {w : World} {t : TypeId} {fs : Array Field} {xs ys : List IV} {cx cy : Value} {b : Bool} {ox oy : Operand} (h : eqSt P t xs ys = some b) (hu : P.underlying t = some (.struct fs)) (hx : VI M (.agg xs) cx) (hy : VI M (.agg ys) cy) (op : BinOp) :
    (Op.equal t cx cy).run P w = .ok b w ∧ (eqGuard op t ox oy cx cy).run P w = .ok () w ∧ (∀ k n, cx ≠ .int k n) ∧ (∀ s, cx ≠ .string s) ∧ (∀ k n, cx ≠ .float k n) ∧ (∀ k n m, cx ≠ .complex k n m) := by
  cases hx with
  | agg _ vs hl1 hx =>
  cases hy with
  | agg _ us hl2 hy =>
  unfold eqSt at h
  split at h
  · rename_i hc
    unfold litsOf at h
    split at h
    · rename_i la lb h1 h2
      have hab := litsEq_iff h
      split at h1
      · rename_i l1 e1
        split at h2
        · rename_i l2 e2
          have a1 := vsOf_ok e1 hl1 hx
          have a2 := vsOf_ok e2 hl2 hy
          rw [← a1] at h1
          rw [← a2] at h2
          have f1 : (Value.agg vs).formed P t = true := by
            have := keyLits_len hu h1
            simp [Value.formed, hu]
            simpa using this
          have f2 : (Value.agg us).formed P t = true := by
            have := keyLits_len hu h2
            simp [Value.formed, hu]
            simpa using this
          obtain ⟨r, hr, hiff⟩ := run_equalIn_deep 9990 10 t hc.1 w 12 12 (.agg vs) (.agg us) la lb f1 f2 (by simpa [Value.cells] using h1) (by simpa [Value.cells] using h2)
          have hr' : (Op.equal t (.agg vs) (.agg us)).run P w = .ok r w := hr
          have hb : r = b := by rw [Bool.eq_iff_iff, hiff, hab]
          refine ⟨by rw [hr', hb], ?_, by simp, by simp, by simp, by simp⟩
          have hg : P.eqGuardType P.depth t = false := hc.2
          unfold eqGuard
          cases op <;> first | rfl | (show (if (!P.eqGuardType P.depth t) = true then (pure () : Sem Unit) else _).run P w = _; rw [hg]; rfl)
        · cases h2
      · cases h1
    · cases h
  · cases h
theorem eqAV_ok {t : TypeId} {x y : AV} {cx cy : Value} {b : Bool} {ox oy : Operand} (h : eqAV C (isNilC ox || isNilC oy) t x y = some b) (hx : VA M ρ G x cx) (hy : VA M ρ G y cy) (op : BinOp) :
    (Op.equal t cx cy).run C.P w = .ok b w ∧ (eqGuard op t ox oy cx cy).run C.P w = .ok () w ∧ (∀ k n, cx ≠ .int k n) ∧ (∀ s, cx ≠ .string s) ∧ (∀ k n, cx ≠ .float k n) ∧ (∀ k n m, cx ≠ .complex k n m) := by
  unfold eqAV at h
  split at h
  · rename_i i hi
    obtain ⟨info, zv, d, h1, h2, h3, h4, h5, h6, h7, h8⟩ := tyOf_some hi
    rw [h5] at h
    split at h
    · rename_i hd
      cases d <;> simp only [tyd, reduceCtorEq] at hd
      split at h
      · exact eqSt_ok h h2 hx.imm_inv hy.imm_inv op
      · cases h
    unfold eqOp at h
    split at h
    · rename_i hd
      cases d <;> simp only [tyd, reduceCtorEq] at hd
      split at h
      · cases h
        obtain rfl := hx.bool_inv
        obtain rfl := hy.bool_inv
        refine ⟨by simp [run_equal_bool h2], by cases op <;> rfl, by simp, by simp, by simp, by simp⟩
      · cases h
    · rename_i hd
      cases d <;> simp only [tyd, reduceCtorEq] at hd
      have hptr : ∀ z : AV, ∀ cz, VA M ρ G z cz → (z = .imm .nilp → cz = .pointer none) ∧ ((∃ o off, z = .ptr o off) ∨ (∃ cs off, z = .imm (.fptr cs off)) → ∃ a, cz = .pointer (some a)) := by
        intro z cz hz
        refine ⟨fun e => by subst e; have := hz.imm_inv; cases this; rfl, fun e => ?_⟩
        rcases e with ⟨o, off, rfl⟩ | ⟨cs, off, rfl⟩
        · cases hz; exact ⟨_, rfl⟩
        · have := hz.imm_inv; cases this; exact ⟨_, rfl⟩
      split at h
      · cases h
        obtain rfl := (hptr _ _ hx).1 rfl
        obtain rfl := (hptr _ _ hy).1 rfl
        refine ⟨by first | exact run_equal_nilp h2 | exact run_equal_pnil h2, by cases op <;> rfl, by simp, by simp, by simp, by simp⟩
      · cases h
        obtain rfl := (hptr _ _ hx).1 rfl
        obtain ⟨a, rfl⟩ := (hptr _ _ hy).2 (.inl ⟨_, _, rfl⟩)
        refine ⟨by first | exact run_equal_nilp h2 | exact run_equal_pnil h2, by cases op <;> rfl, by simp, by simp, by simp, by simp⟩
      · cases h
        obtain ⟨a, rfl⟩ := (hptr _ _ hx).2 (.inl ⟨_, _, rfl⟩)
        obtain rfl := (hptr _ _ hy).1 rfl
        refine ⟨by first | exact run_equal_nilp h2 | exact run_equal_pnil h2, by cases op <;> rfl, by simp, by simp, by simp, by simp⟩
      · cases h
        obtain rfl := (hptr _ _ hx).1 rfl
        obtain ⟨a, rfl⟩ := (hptr _ _ hy).2 (.inr ⟨_, _, rfl⟩)
        refine ⟨by first | exact run_equal_nilp h2 | exact run_equal_pnil h2, by cases op <;> rfl, by simp, by simp, by simp, by simp⟩
      · cases h
        obtain ⟨a, rfl⟩ := (hptr _ _ hx).2 (.inr ⟨_, _, rfl⟩)
        obtain rfl := (hptr _ _ hy).1 rfl
        refine ⟨by first | exact run_equal_nilp h2 | exact run_equal_pnil h2, by cases op <;> rfl, by simp, by simp, by simp, by simp⟩
      · cases h
    · rename_i hd
      cases d <;> simp only [tyd, reduceCtorEq] at hd
      have hnil : ∀ z : AV, ∀ cz, VA M ρ G z cz → (z = .imm .niliface → cz = .nilIface) ∧ ((∃ u v, z = .imm (.iface u v)) → ∃ u v, cz = .iface u v) := by
        intro z cz hz
        refine ⟨fun e => by subst e; have := hz.imm_inv; cases this; rfl, fun e => ?_⟩
        obtain ⟨u, v, rfl⟩ := e
        have := hz.imm_inv; cases this; exact ⟨_, _, rfl⟩
      split at h
      · split at h
        · rename_i hc
          cases h
          obtain rfl := (hnil _ _ hx).1 rfl
          obtain rfl := (hnil _ _ hy).1 rfl
          refine ⟨by first | exact run_equal_ifnn h2 | exact run_equal_ifni h2 | exact run_equal_ifin h2, ?_, by simp, by simp, by simp, by simp⟩
          have hcc : (∃ v, ox = .const v) ∨ (∃ v, oy = .const v) := by
            simp only [Bool.or_eq_true] at hc
            rcases hc with hc | hc
            · left; cases ox <;> simp [isNilC] at hc ⊢
            · right; cases oy <;> simp [isNilC] at hc ⊢
          rcases hcc with ⟨v, rfl⟩ | ⟨v, rfl⟩
          · rw [eqGuard_nil_constL]; rfl
          · rw [eqGuard_nil_constR]; rfl
        · cases h
      · cases h
        obtain rfl := (hnil _ _ hx).1 rfl
        obtain ⟨u, v, rfl⟩ := (hnil _ _ hy).2 ⟨_, _, rfl⟩
        refine ⟨by first | exact run_equal_ifnn h2 | exact run_equal_ifni h2 | exact run_equal_ifin h2, by cases op <;> rfl, by simp, by simp, by simp, by simp⟩
      · cases h
        obtain ⟨u, v, rfl⟩ := (hnil _ _ hx).2 ⟨_, _, rfl⟩
        obtain rfl := (hnil _ _ hy).1 rfl
        refine ⟨by first | exact run_equal_ifnn h2 | exact run_equal_ifni h2 | exact run_equal_ifin h2, by cases op <;> rfl, by simp, by simp, by simp, by simp⟩
      · cases h
    · rename_i hd
      cases d <;> simp only [tyd, reduceCtorEq] at hd
      split at h
      · cases h
        cases hx
        cases hy
        exact ⟨run_equal_slnn h2, by cases op <;> rfl, by simp, by simp, by simp, by simp⟩
      · cases h
        have hx := hx.imm_inv
        cases hx with
        | lst _ b off c cs e fr sz h0 hc hm hs h3 h4 h5 =>
          cases hy
          exact ⟨run_equal_slpn h2, by cases op <;> rfl, by simp, by simp, by simp, by simp⟩
      · cases h
    · cases h
  · cases h
theorem binA_ok {op : BinOp} {t : TypeId} {x y v : AV} {cx cy : Value} {ox oy : Operand} (h : binA C op (isNilC ox || isNilC oy) t x y = some v) (hx : VA M ρ G x cx) (hy : VA M ρ G y cy) :
    ∃ u, (do eqGuard op t ox oy cx cy; binOp op t cx cy : Sem Value).run C.P w = .ok u w ∧ VA M ρ G v u := by
  unfold binA at h
  split at h
  · rename_i k a k' b
    split at h
    · rename_i hk
      subst hk
      simp only [Option.map_eq_some_iff] at h
      obtain ⟨z, hz, rfl⟩ := h
      obtain rfl := hx.int_inv
      obtain rfl := hy.int_inv
      obtain ⟨u, h1, h2⟩ := intOp_ok (P := C.P) (w := w) (M := M) (t := t) hz
      exact ⟨u, by rw [eqGuard_at_int]; simpa using h1, .imm _ _ h2⟩
    · cases h
  · rename_i a b
    simp only [Option.map_eq_some_iff] at h
    obtain ⟨z, hz, rfl⟩ := h
    obtain rfl := hx.str_inv
    obtain rfl := hy.str_inv
    obtain ⟨u, h1, h2⟩ := strOp_ok (P := C.P) (w := w) (M := M) (t := t) hz
    exact ⟨u, by rw [eqGuard_at_string]; simpa using h1, .imm _ _ h2⟩
  · split at h
    · simp only [Option.map_eq_some_iff] at h
      obtain ⟨b, hb, rfl⟩ := h
      obtain ⟨h1, h2, h3, h4, h5, h6⟩ := eqAV_ok (w := w) hb hx hy .eql
      refine ⟨.bool b, ?_, .imm _ _ (.bool _)⟩
      have : binOp .eql t cx cy = (do pure (.bool (← Op.equal t cx cy)) : Sem Value) := by
        cases cx <;> first | rfl | exact absurd rfl (h3 _ _) | exact absurd rfl (h4 _) | exact absurd rfl (h5 _ _) | exact absurd rfl (h6 _ _ _)
      simp only [Sem.run_bind, h2, Result.andThen_ok, this, h1, Sem.run_pure]
    · simp only [Option.map_eq_some_iff] at h
      obtain ⟨b, hb, rfl⟩ := h
      obtain ⟨h1, h2, h3, h4, h5, h6⟩ := eqAV_ok (w := w) hb hx hy .neq
      refine ⟨.bool !b, ?_, .imm _ _ (.bool _)⟩
      have : binOp .neq t cx cy = (do pure (.bool (!(← Op.equal t cx cy))) : Sem Value) := by
        cases cx <;> first | rfl | exact absurd rfl (h3 _ _) | exact absurd rfl (h4 _) | exact absurd rfl (h5 _ _) | exact absurd rfl (h6 _ _ _)
      simp only [Sem.run_bind, h2, Result.andThen_ok, this, h1, Sem.run_pure]
    · cases h
theorem unA_ok {op : UnOp} {x v : AV} {cx : Value} (h : unA op x = some v) (hx : VA M ρ G x cx) : ∃ u, (Op.unary op cx).run P w = .ok u w ∧ VA M ρ G v u := by
  unfold unA at h
  split at h
  · cases h; obtain rfl := hx.int_inv; exact ⟨_, by simp [Op.unary, Op.intArith], .imm _ _ (.int _ _)⟩
  · cases h; obtain rfl := hx.bool_inv; exact ⟨_, by simp [Op.unary], .imm _ _ (.bool _)⟩
  · cases h
theorem aMakeInterface_ok {t : TypeId} {x v : AV} {cx : Value} {ups : List (Nat × U)} (h : aMakeInterface C t x = some (.val v ups)) (hx : VA M ρ G x cx) : ups = [] ∧ ∃ u, (Instr.makeInterface t cx).run C.P w = .ok u w ∧ VA M ρ G v u := by
  unfold aMakeInterface at h
  split at h
  · rename_i i y hi
    obtain ⟨info, zv, d, h1, h2, h3, h4, h5, h6, h7, h8⟩ := tyOf_some hi
    have hx := hx.imm_inv
    split at h
    · cases h
    · cases h
    · rename_i n1 n2
      cases h
      refine ⟨rfl, _, ?_, .imm _ _ (.iface t _ _ hx)⟩
      simp only [Instr.makeInterface, Sem.run_bind, run_underlying' h2, Result.andThen_ok]
      cases d <;> first | rfl | (exact absurd (by rw [h5]; rfl) n1)
  · cases h
theorem aIndex_ok {t : TypeId} {x ix v : AV} {cx ci : Value} {ups : List (Nat × U)} (h : aIndex C t x ix = some (.val v ups)) (hx : VA M ρ G x cx) (hix : VA M ρ G ix ci) : ups = [] ∧ ∃ u, (Instr.index t cx ci).run C.P w = .ok u w ∧ VA M ρ G v u := by
  unfold aIndex at h
  split at h
  · rename_i k s kk n hk
    obtain rfl := hx.str_inv
    obtain rfl := hix.int_inv
    obtain ⟨info, zv, d, h1, h2, h3, h4, h5, h6, h7, h8⟩ := tyOf_some hk
    split at h
    · rename_i hd
      rw [hd] at h5
      cases d <;> simp only [tyd, reduceCtorEq] at h5
      split at h
      · rename_i hn
        cases h
        refine ⟨rfl, _, ?_, .imm _ _ (.int _ _)⟩
        have hlt : n.toNat < s.size := by omega
        have hlt2 : n.toNat < s.data.size := hlt
        have e : s[n.toNat]? = some (s.data[n.toNat]) := by rw [getElem?_pos s n.toNat hlt]; rfl
        simp only [Instr.index, asIntOf, pure_bind, Sem.run_bind, run_underlying' h2, Result.andThen_ok, hn.1, if_true, e]
        simp [Array.getD_eq_getD_getElem?, getElem?_pos s.data n.toNat hlt2]
      · cases h
    · cases h
  · cases h
theorem aExtract_ok {x v : AV} {i : Nat} {cx : Value} {ups : List (Nat × U)} (h : aExtract x i = some (.val v ups)) (hx : VA M ρ G x cx) : ups = [] ∧ ∃ u, (Instr.extract cx i).run P w = .ok u w ∧ VA M ρ G v u := by
  unfold aExtract at h
  split at h
  · rename_i vs
    split at h
    · rename_i y hy
      cases h
      have hx := hx.imm_inv
      cases hx with
      | tup _ cs hl hc =>
        have hi := (List.getElem?_eq_some_iff.1 hy).1
        have hlt : i < cs.size := by omega
        refine ⟨rfl, cs[i], by simp [Instr.extract, hlt], .imm _ _ ?_⟩
        have := hc i _ hy
        simpa [at_, Array.getD_eq_getD_getElem?, hlt] using this
    · cases h
  · rename_i vs
    split at h
    · rename_i y hy
      cases h
      cases hx with
      | tup _ cs hl hc =>
        have hi := (List.getElem?_eq_some_iff.1 hy).1
        have hlt : i < cs.size := by omega
        refine ⟨rfl, cs[i], by simp [Instr.extract, hlt], ?_⟩
        have := hc i _ hy
        simpa [at_, Array.getD_eq_getD_getElem?, hlt] using this
    · cases h
  · cases h
theorem aTypeAssert_ok {t xt : TypeId} {x v : AV} {ok : Bool} {cx : Value} {ups : List (Nat × U)} (h : aTypeAssert C x t ok = some (.val v ups)) (hx : VA M ρ G x cx) : ups = [] ∧ ∃ u, (Instr.typeAssert cx xt t ok).run C.P w = .ok u w ∧ VA M ρ G v u := by
  unfold aTypeAssert at h
  split at h
  · rename_i i hi
    obtain ⟨info, zv, d, h1, h2, h3, h4, h5, h6, h7, h8⟩ := tyOf_some hi
    split at h
    · cases h
    · cases h
    · rename_i n1 n2
      have hd : ∀ ms, d ≠ .interface ms := fun ms e => by subst e; exact n1 h5
      have hz : VA M ρ G i.zero zv := by rw [h8]; exact VA_cv zv
      split at h
      · split at h
        · rename_i hok
          cases h
          have hx := hx.imm_inv
          cases hx
          refine ⟨rfl, .tuple #[zv, .bool false], ?_, VA_pair hz (.imm _ _ (.bool _))⟩
          simp only [Instr.typeAssert, Sem.run_bind, run_underlying' h2, Result.andThen_ok]
          cases d <;> first | (exact absurd rfl (hd _)) | simp [hok, run_zeroValue' h1 h3]
        · cases h
      · rename_i u y
        have hx := hx.imm_inv
        cases hx with
        | iface _ _ cy hy =>
        split at h
        · rename_i hu
          cases h
          refine ⟨rfl, if ok then .tuple #[cy, .bool true] else cy, ?_, ?_⟩
          · simp only [Instr.typeAssert, Sem.run_bind, run_underlying' h2, Result.andThen_ok]
            cases d <;> first | (exact absurd rfl (hd _)) | simp [hu]
          · cases ok
            · exact .imm _ _ hy
            · exact .imm _ _ (.tup _ _ rfl fun i z hz => by
                match i, hz with
                | 0, hz => simp at hz; subst hz; exact hy
                | 1, hz => simp at hz; subst hz; exact .bool _
                | i + 2, hz => simp at hz)
        · rename_i hu
          split at h
          · rename_i hok
            cases h
            refine ⟨rfl, .tuple #[zv, .bool false], ?_, VA_pair hz (.imm _ _ (.bool _))⟩
            simp only [Instr.typeAssert, Sem.run_bind, run_underlying' h2, Result.andThen_ok]
            cases d <;> first | (exact absurd rfl (hd _)) | simp [hu, hok, run_zeroValue' h1 h3]
          · cases h
      · cases h
  · cases h
/-! ### conversions -/
theorem bytesOf_ok : ∀ {l : List AV} {bs : List UInt8}, bytesOf l = some bs → ∃ ns : List Int, l = ns.map (fun n => AV.imm (.int .u8 n)) ∧ bs = ns.map fun n => UInt8.ofNat n.toNat
  | [], bs, h => by cases h; exact ⟨[], rfl, rfl⟩
  | .imm (.int .u8 n) :: r, bs, h => by
    simp only [bytesOf, Option.map_eq_some_iff] at h
    obtain ⟨b', hb, rfl⟩ := h
    obtain ⟨ns, rfl, rfl⟩ := bytesOf_ok hb
    exact ⟨n :: ns, rfl, rfl⟩
  | .imm (.int .i8 n) :: r, bs, h => by simp [bytesOf] at h
  | .imm (.int .i16 n) :: r, bs, h => by simp [bytesOf] at h
  | .imm (.int .i32 n) :: r, bs, h => by simp [bytesOf] at h
  | .imm (.int .i64 n) :: r, bs, h => by simp [bytesOf] at h
  | .imm (.int .u16 n) :: r, bs, h => by simp [bytesOf] at h
  | .imm (.int .u32 n) :: r, bs, h => by simp [bytesOf] at h
  | .imm (.int .u64 n) :: r, bs, h => by simp [bytesOf] at h
  | .imm (.bool _) :: r, bs, h => by simp [bytesOf] at h
  | .imm (.str _) :: r, bs, h => by simp [bytesOf] at h
  | .imm (.lst _) :: r, bs, h => by simp [bytesOf] at h
  | .imm (.agg _) :: r, bs, h => by simp [bytesOf] at h
  | .imm (.tup _) :: r, bs, h => by simp [bytesOf] at h
  | .imm (.fptr _ _) :: r, bs, h => by simp [bytesOf] at h
  | .imm (.eptr _ _ _) :: r, bs, h => by simp [bytesOf] at h
  | .imm .nilp :: r, bs, h => by simp [bytesOf] at h
  | .imm .nilfn :: r, bs, h => by simp [bytesOf] at h
  | .imm .nilmap :: r, bs, h => by simp [bytesOf] at h
  | .imm .niliface :: r, bs, h => by simp [bytesOf] at h
  | .imm (.iface _ _) :: r, bs, h => by simp [bytesOf] at h
  | .imm (.fn _ _) :: r, bs, h => by simp [bytesOf] at h
  | .imm (.fmp _ _) :: r, bs, h => by simp [bytesOf] at h
  | .undef :: r, bs, h => by simp [bytesOf] at h
  | .nils :: r, bs, h => by simp [bytesOf] at h
  | .ptr _ _ :: r, bs, h => by simp [bytesOf] at h
  | .rptr _ _ _ _ :: r, bs, h => by simp [bytesOf] at h
  | .row _ _ :: r, bs, h => by simp [bytesOf] at h
  | .map _ :: r, bs, h => by simp [bytesOf] at h
  | .fn _ _ :: r, bs, h => by simp [bytesOf] at h
  | .agg _ :: r, bs, h => by simp [bytesOf] at h
  | .tup _ :: r, bs, h => by simp [bytesOf] at h
  | .yld _ :: r, bs, h => by simp [bytesOf] at h
theorem foldl_push (ns : List Int) : ∀ b : ByteArray, ns.foldl (fun r n => r.push (UInt8.ofNat n.toNat)) b = ⟨b.data ++ (ns.map fun n => UInt8.ofNat n.toNat).toArray⟩ := by
  induction ns with
  | nil => intro b; simp
  | cons n r ih => intro b; simp only [List.foldl_cons, ih]; simp [ByteArray.push]
theorem aConvert_ok {a b : TypeId} {x v : AV} {cx : Value} {ups : List (Nat × U)} (h : aConvert C G a b x = some (.val v ups)) (hI : Inv Q w M ρ G nx) (hx : VA M ρ G x cx) :
    ups = [] ∧ ∃ u, (convert a b cx).run C.P w = .ok u w ∧ VA M ρ G v u := by
  unfold aConvert at h
  split at h
  · rename_i i j hi hj
    obtain ⟨info, zv, d, h1, h2, h3, h4, h5, h6, h7, h8⟩ := tyOf_some hi
    obtain ⟨info', zv', d', k1, k2, k3, k4, k5, k6, k7, k8⟩ := tyOf_some hj
    split at h
    · rename_i k kk n hd
      cases h
      rw [hd] at k5
      cases d' <;> simp only [tyd, reduceCtorEq, TyD.int.injEq] at k5
      subst k5
      obtain rfl := hx.int_inv
      refine ⟨rfl, _, ?_, .imm _ _ (.int _ _)⟩
      simp only [convert, Sem.run_bind, run_underlying' h2, run_underlying' k2, Result.andThen_ok]
      rfl
    · rename_i s hd
      cases h
      rw [hd] at k5
      cases d' <;> simp only [tyd, reduceCtorEq] at k5
      obtain rfl := hx.str_inv
      refine ⟨rfl, _, ?_, .imm _ _ (.str _)⟩
      simp only [convert, Sem.run_bind, run_underlying' h2, run_underlying' k2, Result.andThen_ok]
      rfl
    · rename_i hd _
      split at h
      · rename_i e hde
        split at h
        · rename_i k hk
          obtain ⟨info2, zv2, d2, l1, l2, l3, l4, l5, l6, l7, l8⟩ := tyOf_some hk
          split at h
          · rename_i xs hkd hel
            split at h
            · rename_i l hl
              cases h
              rw [hd] at k5
              cases d' <;> simp only [tyd, reduceCtorEq] at k5
              rw [hde] at h5
              cases d <;> simp only [tyd, reduceCtorEq, TyD.sl.injEq] at h5
              subst h5
              rw [hkd] at l5
              cases d2 <;> simp only [tyd, reduceCtorEq, TyD.int.injEq] at l5
              subst l5
              refine ⟨rfl, .string ⟨l.toArray⟩, ?_, .imm _ _ (.str _)⟩
              have hcv : ∀ s : Value, (∀ k n, s ≠ .int k n) → (∀ s', s ≠ .string s') → (∀ k b, s ≠ .float k b) → (∀ k b c, s ≠ .complex k b c) → (convert a b s).run C.P w = (Conv.bytesToString s).run C.P w := by
                intro s n1 n2 n3 n4
                simp only [convert, Sem.run_bind, run_underlying' h2, run_underlying' k2, Result.andThen_ok]
                cases s <;> first | (exact absurd rfl (n1 _ _)) | (exact absurd rfl (n2 _)) | (exact absurd rfl (n3 _ _)) | (exact absurd rfl (n4 _ _ _)) | simp only [run_underlying' l2, Result.andThen_ok]
              rcases elems_ok hel hI hx with ⟨rfl, rfl⟩ | ⟨ad, cp, rfl, hrest⟩
              · cases hl
                rw [hcv _ (by simp) (by simp) (by simp) (by simp)]
                rfl
              · rw [hcv _ (by simp) (by simp) (by simp) (by simp)]
                obtain ⟨ns, rfl, rfl⟩ := bytesOf_ok hl
                have hload : (loadCells ad (ns.map (fun n => AV.imm (.int .u8 n))).length).run C.P w = .ok (ns.map (Value.int .u8)).toArray w := by
                  have := run_loadCells_list (P := C.P) w ad (ns.map (Value.int .u8)) (fun jx vx hvx => ?_)
                  · simpa using this
                  · rcases hrest with h0 | ⟨bb, off, cs, e', fr, sz, rfl, g1, g2, g3, g4, g5⟩
                    · simp at h0; subst h0; simp at hvx
                    · rw [List.getElem?_map, Option.map_eq_some_iff] at hvx
                      obtain ⟨n, hn, rfl⟩ := hvx
                      have hj := (List.getElem?_eq_some_iff.1 hn).1
                      have hs1 : sz = 1 := by rw [← g3 (.imm (.int .u8 n)) (List.mem_map.2 ⟨n, List.mem_of_getElem? hn, rfl⟩)]; rfl
                      subst hs1
                      have := g5 jx (.imm (.int .u8 n)) 0 (.imm (.int .u8 n)) (by simp [hn]) rfl
                      have e1 := this.int_inv
                      rw [add_none, cell_at g1 (by simp at g4; omega)]
                      simpa using e1
                rw [run_bytesToString w _ _ _ ns hload, foldl_push]
                simp
            · cases h
          · cases h
        · cases h
      · cases h
    · cases h
  · cases h
/-! ### slices -/
def OVA (M : Mem) (ρ : Ref) (G : Nat → Obj) : Option AV → Option Value → Prop
  | none, none => True
  | some a, some c => VA M ρ G a c
  | _, _ => False
theorem bound_ok {n d m : Nat} {o : Option AV} {oc : Option Value} (h : bound n d o = some m) (ho : OVA M ρ G o oc) :
    (oc = none ∧ m = d) ∨ ∃ k i, oc = some (.int k i) ∧ 0 ≤ i ∧ i ≤ n ∧ m = i.toNat := by
  unfold bound at h
  split at h
  · cases oc with
    | some c => exact absurd ho (by simp [OVA])
    | none => cases h; exact .inl ⟨rfl, rfl⟩
  · rename_i k i
    cases oc with
    | none => exact absurd ho (by simp [OVA])
    | some c =>
      have ho : VA M ρ G (.imm (.int k i)) c := ho
      obtain rfl := ho.int_inv
      split at h
      · rename_i hi; cases h; exact .inr ⟨k, i, rfl, hi.1, hi.2, rfl⟩
      · cases h
  · cases h
theorem ovl {tmps : Nat → AV} {arr : Array Value} (hT : TR M ρ G tmps arr) (o : Option Operand) : OVA M ρ G (o.map (Go.Abs.ev tmps)) (o.map (evV arr)) := by
  cases o with
  | none => trivial
  | some x => exact hT.ev x
theorem sb_run {k : IntKind} {i : Int} {n : Nat} {code : BoundsCode} (h0 : 0 ≤ i) (h1 : i ≤ n) : (Instr.sliceBound (.int k i) n code).run P w = .ok i.toNat w := by
  simp [Instr.sliceBound, asIntOf, h0, h1]
theorem sliceBounds_run {sl : Bool} {len cap l h : Nat} {lo hi : Option AV} {clo chi : Option Value} (hh : bound len len hi = some h) (hl : bound h 0 lo = some l) (h1 : OVA M ρ G hi chi) (h2 : OVA M ρ G lo clo) (hc : len ≤ cap) :
    (Instr.sliceBounds sl len cap clo chi none).run P w = .ok (l, h, cap) w := by
  rcases bound_ok hh h1 with ⟨rfl, rfl⟩ | ⟨k, i, rfl, i0, i1, rfl⟩ <;> rcases bound_ok hl h2 with ⟨rfl, rfl⟩ | ⟨k', i', rfl, j0, j1, rfl⟩
  · simp [Instr.sliceBounds]
  · simp [Instr.sliceBounds, sb_run j0 j1]
  · have : i ≤ (cap : Int) := by omega
    simp [Instr.sliceBounds, sb_run i0 this]
  · have : i ≤ (cap : Int) := by omega
    simp [Instr.sliceBounds, sb_run i0 this, sb_run j0 j1]
theorem drop_take_get {α : Type} {l : List α} {a b i : Nat} {x : α} (h : ((l.take b).drop a)[i]? = some x) : l[a + i]? = some x ∧ a + i < b := by
  rw [List.getElem?_drop, List.getElem?_take] at h
  split at h
  · rename_i hlt; exact ⟨h, hlt⟩
  · cases h
theorem VI_sub {sz : Nat} {xs : List IV} {c : Value} {l h : Nat} (hv : VI M (.lst xs) c) (hsz : ∀ y ∈ xs, y.cells.length = sz) (hlh : l ≤ h) (hh : h ≤ xs.length) :
    ∃ a n cp, c = .slice a n cp ∧ n = xs.length ∧ n ≤ cp ∧ VI M (.lst ((xs.take h).drop l)) (.slice (if cp = l then a else a.map (·.add (l * sz))) (h - l) (cp - l)) := by
  cases hv with
  | nil =>
    refine ⟨_, _, _, rfl, rfl, Nat.le_refl _, ?_⟩
    obtain rfl : h = 0 := by simpa using hh
    obtain rfl : l = 0 := by omega
    simpa using VI.nil
  | empty ad cp =>
    refine ⟨_, _, _, rfl, rfl, Nat.zero_le _, ?_⟩
    obtain rfl : h = 0 := by simpa using hh
    obtain rfl : l = 0 := by omega
    have : (if cp = 0 then some ad else (some ad).map (·.add (0 * sz))) = some ad := by
      split
      · rfl
      · cases ad with
        | mk b o s => simp [Addr.add]
    simp only [this, Nat.sub_zero, List.take_zero, List.drop_nil]
    exact .empty _ _
  | lst _ b off cp cs e fr sz' h0 hc hM hs h1 h2 hl =>
    refine ⟨_, _, _, rfl, rfl, hc, ?_⟩
    have hlen : ((xs.take h).drop l).length = h - l := by simp; omega
    rcases Nat.lt_or_ge l h with hlt | hge
    · have hszz : sz' = sz := by
        cases xs with
        | nil => exact absurd rfl h0
        | cons x0 r => rw [← h1 0 x0 rfl]; exact hsz x0 (by simp)
      subst hszz
      have hne : (xs.take h).drop l ≠ [] := fun e => by rw [e] at hlen; simp at hlen; omega
      have ha : (if cp = l then some (⟨b, off, none⟩ : Addr) else (some (⟨b, off, none⟩ : Addr)).map (·.add (l * sz'))) = some ⟨b, off + l * sz', none⟩ := by
        rw [if_neg (by omega)]; simp [add_none]
      rw [ha, ← hlen]
      refine .lst _ b _ _ cs e fr sz' hne (by omega) hM hs (fun i x hx => h1 _ x (drop_take_get hx).1) ?_ (fun i x j y hx hy => ?_)
      · have : (l + (h - l)) * sz' ≤ xs.length * sz' := Nat.mul_le_mul_right _ (by omega)
        rw [Nat.add_mul] at this
        rw [hlen]; omega
      · have := hl (l + i) x j y (drop_take_get hx).1 hy
        rw [Nat.add_mul] at this
        rw [show off + l * sz' + i * sz' + j = off + (l * sz' + i * sz') + j by omega]
        exact this
    · obtain rfl : l = h := by omega
      have : (xs.take l).drop l = [] := by apply List.eq_nil_of_length_eq_zero; omega
      rw [this, Nat.sub_self]
      split
      · exact .empty _ _
      · simp only [Option.map_some, add_none]
        exact .empty _ _
theorem bound_le {n d m : Nat} {o : Option AV} (h : bound n d o = some m) (hd : d ≤ n) : m ≤ n := by
  unfold bound at h
  split at h
  · cases h; exact hd
  · split at h
    · cases h; omega
    · cases h
  · cases h
theorem VI_lst_slice {xs : List IV} {c : Value} (h : VI M (.lst xs) c) : ∃ a cp, c = .slice a xs.length cp ∧ xs.length ≤ cp := by
  cases h with
  | nil => exact ⟨_, _, rfl, Nat.le_refl _⟩
  | empty => exact ⟨_, _, rfl, Nat.zero_le _⟩
  | lst _ _ _ _ _ _ _ _ _ hc => exact ⟨_, _, rfl, hc⟩
theorem aSlice_ok {s : St} {arr : Array Value} {t : TypeId} {x : Operand} {lo hi : Option Operand} {v : AV} {ups : List (Nat × U)} (h : aSlice C s t (Go.Abs.ev s.tmps x) (lo.map (Go.Abs.ev s.tmps)) (hi.map (Go.Abs.ev s.tmps)) = some (.val v ups)) (hI : Inv Q w M ρ s.G nx)
    (hT : TR M ρ s.G s.tmps arr) : Good id Q M ρ s.G nx w (updL s.G ups) v ((vNext (Instr.sliceAt t (evV arr x) (lo.map (evV arr)) (hi.map (evV arr)) none)).run C.P w) := by
  have hx := hT.ev x
  have hlo := ovl hT lo
  have hhi := ovl hT hi
  generalize Go.Abs.ev s.tmps x = ax at h hx
  generalize evV arr x = cx at hx ⊢
  generalize lo.map (Go.Abs.ev s.tmps) = alo at h hlo
  generalize lo.map (evV arr) = clo at hlo ⊢
  generalize hi.map (Go.Abs.ev s.tmps) = ahi at h hhi
  generalize hi.map (evV arr) = chi at hhi ⊢
  unfold aSlice at h
  split at h
  · rename_i i hi'
    obtain ⟨info, zv, d, h1, h2, h3, h4, h5, h6, h7, h8⟩ := tyOf_some hi'
    split at h
    · rename_i hd
      rw [hd] at h5
      cases d <;> simp only [tyd, reduceCtorEq] at h5
      split at h
      · rename_i s' 
        obtain rfl := hx.str_inv
        split at h
        · rename_i hh hhv
          split at h
          · rename_i l hlv
            cases h
            refine Good.pure hI (run_vNext (c := .string (s'.extract l hh)) ?_) (.imm _ _ (.str _))
            simp only [Instr.sliceAt, Instr.slice, Sem.run_bind, run_underlying' h2, Result.andThen_ok, Option.isSome_none, Bool.false_eq_true, if_false, sliceBounds_run hhv hlv hhi hlo (Nat.le_refl _), Sem.run_pure]
          · cases h
        · cases h
      · cases h
    · rename_i et hd
      rw [hd] at h5
      cases d <;> simp only [tyd, reduceCtorEq, TyD.sl.injEq] at h5
      rename_i et'
      subst h5
      split at h
      · rename_i xs ids k hpk hk
        obtain ⟨info2, zv2, d2, l1, l2, l3, l4, l5, l6, l7, l8⟩ := tyOf_some hk
        split at h
        · rename_i hh hhv
          split at h
          · rename_i l hlv
            split at h
            · rename_i hall
              injection h with h
              have hV := peek_VI hI pkDepth ax (.lst xs) ids cx hpk (fun o h => h) hx
              obtain ⟨a, cp, rfl, hcp⟩ := VI_lst_slice hV
              have hhle := bound_le hhv (Nat.le_refl _)
              have hlle := bound_le hlv (Nat.zero_le _)
              obtain ⟨a', n', cp', e, -, -, hsub⟩ := VI_sub hV (by simpa using hall) hlle hhle
              cases e
              refine good_give hI (peek_live _ _ _ _ hpk) h (by simp) hsub (run_vNext ?_)
              simp only [Instr.sliceAt, Instr.slice, Sem.run_bind, run_underlying' h2, Result.andThen_ok, sliceBounds_run hhv hlv hhi hlo hcp, run_sizeOf' l1, ← l6, Sem.run_pure]
            · cases h
          · cases h
        · cases h
      · cases h
    · cases h
  · cases h
end Go.Abs

/- The abstract interpreter: walks over maps of at most one entry. -/
namespace Go.Abs
variable {M M' : Mem} {ρ ρ' : Ref} {G G' : Nat → Obj} {w w' : World} {nx : Nat} {Q : Nat → Prop} {P : Program} {C : Cfg}
theorem good_new {id : Nat} {x : Obj} {o : Go.Obj} (hI : Inv Q w M ρ G nx) (hid : ρ id = none) (hlt : id < nx) (_hrow : ∀ et sz xs fr, x ≠ .row et sz xs fr) {s : Sem Value}
    (hx : Ev M ρ G M (upd ρ id (some (.pointer (some ⟨w.heap.size, 0, none⟩)))) (upd G id x) → ObjOK (w.alloc o) M (upd ρ id (some (.pointer (some ⟨w.heap.size, 0, none⟩)))) (upd G id x) id)
    (hs : s.run P w = .ok (.pointer (some ⟨w.heap.size, 0, none⟩)) (w.alloc o)) :
    Good id Q M ρ G nx w (updL G [(id, .set x)]) (.ptr id 0) ((vNext s).run P w) := by
  have hv : Ev M ρ G M (upd ρ id (some (.pointer (some ⟨w.heap.size, 0, none⟩)))) (upd G id x) := Ev.new hid
  refine ⟨_, _, _, M, upd ρ id (some (.pointer (some ⟨w.heap.size, 0, none⟩))), run_vNext hs, .inl rfl, hv, ?_, ?_, WS.alloc hI.new _, MQ.refl _ _, fun o h e => by simp [upd, h, e]⟩
  · refine hI.put hlt hv (fun b => ?_) (by simp) (hx hv) (fun b hb => ?_)
    · rcases Nat.lt_or_ge b w.heap.size with h | h
      · exact .inl (Go.RowKit.Below.heap_alloc w _ b h)
      · exact .inr (.inl h)
    · simp [blk] at hb; exact .inl (by omega)
  · exact .ptr id 0 w.heap.size (by simp [upd])
theorem aRange_ok {id : Nat} {t : TypeId} {x v : AV} {c : Value} {ups : List (Nat × U)} (h : aRange C id t x = some (.val v ups)) (hI : Inv Q w M ρ G nx) (hid : ρ id = none) (hlt : id < nx) (hx : VA M ρ G x c) :
    Good id Q M ρ G nx w (updL G ups) v ((vNext (Instr.range t c)).run C.P w) := by
  unfold aRange at h
  split at h
  · rename_i i hi
    obtain ⟨info, zv, d, h1, h2, h3, h4, h5, h6, h7, h8⟩ := tyOf_some hi
    split at h
    · rename_i k e hd
      rw [hd] at h5
      cases d <;> simp only [tyd, reduceCtorEq, TyD.mp.injEq] at h5
      obtain ⟨rfl, rfl⟩ := h5
      split at h
      · cases h
        have hx := hx.imm_inv
        cases hx
        refine good_new hI hid hlt (fun _ _ _ _ e => by cases e) (fun _ => ?_) (run_range_nilMap w t _ _ h2)
        unfold ObjOK
        simp only [upd, if_true]
        exact ⟨w.heap.size, rfl, .inl ⟨heap_alloc_new w _, trivial⟩⟩
      · rename_i ks vs
        split at h
        · rename_i hle
          cases h
          have hx := hx.imm_inv
          cases hx with
          | fmp _ _ b es clk hM hk hv hks hvs hbn =>
            refine good_new hI hid hlt (fun _ _ _ _ e => by cases e) (fun _ => ?_) (run_range_map w t _ _ b es clk h2 (hI.mem _ _ hM))
            unfold ObjOK
            simp only [upd, if_true]
            exact ⟨w.heap.size, rfl, .inr ⟨b, es, clk, #[], heap_alloc_new w _, hM, hbn, hk, hv, by omega, hks, hvs, fun _ => rfl, fun e => by cases e⟩⟩
        · cases h
      · cases h
    · cases h
  · cases h
theorem run_next_nil_at {w : World} {r : Nat} {a b : Nat} {s : Array Nat} (hr : w.heap[r]? = some (.mapIter none a s b)) (ty : TypeId) : (Instr.next (.pointer (some ⟨r, 0, none⟩)) false ty).run P w = .ok (.tuple #[.bool false]) w := by
  simp only [Instr.next, getObj, Sem.run_bind, Sem.run, hr, Result.andThen]
  rfl
theorem size_one {es : Array MapEntry} (h : es.size = 1) : ∃ e, es = #[e] := by
  refine ⟨es[0], ?_⟩
  apply Array.ext
  · simpa using h
  · intro i h1 h2
    obtain rfl : i = 0 := by simp at h2; omega
    rfl
theorem VI_tup1 {b : Bool} : VI M (.tup [.bool b]) (.tuple #[.bool b]) := .tup _ _ rfl fun i x hx => by
  match i, hx with
  | 0, hx => simp at hx; subst hx; exact .bool _
  | i + 1, hx => simp at hx
theorem aNext_ok {s : St} {id : Nat} {x v : AV} {isStr : Bool} {c : Value} {ty : TypeId} {ups : List (Nat × U)} (h : aNext s x isStr = some (.val v ups)) (hI : Inv Q w M ρ s.G nx) (hx : VA M ρ s.G x c) :
    Good id Q M ρ s.G nx w (updL s.G ups) v ((vNext (Instr.next c isStr ty)).run C.P w) := by
  unfold aNext at h
  split at h
  · rename_i q
    cases hx with
    | ptr _ _ r hr =>
      have hobj := hI.obj q
      unfold ObjOK at hobj
      split at h
      · rename_i vs done hG
        cases h
        rw [hG] at hobj
        obtain ⟨r', h1, h2⟩ := hobj
        rw [hr] at h1; cases h1
        refine Good.pure hI (run_vNext (c := .tuple #[.bool false]) ?_) (.imm _ _ VI_tup1)
        rcases h2 with ⟨h2, _⟩ | ⟨bm, es, clk, seen, h2, h3, h4, h6, h7, h8, h9, h10, h11, h12⟩
        · exact run_next_nil_at h2 ty
        · have hes : es = #[] := Array.eq_empty_of_size_eq_zero (by simpa using h6.symm)
          rcases run_next_at (P := C.P) w ty r bm clk clk seen es clk h2 (hI.mem _ _ h3) h4.1 (Nat.le_refl _) with ⟨_, h⟩ | ⟨e, he, _⟩
          · exact h
          · subst hes; simp [leftOf] at he
      · rename_i ks vs hG
        cases h
        rw [hG] at hobj
        obtain ⟨r', h1, h2⟩ := hobj
        rw [hr] at h1; cases h1
        refine Good.pure hI (run_vNext (c := .tuple #[.bool false]) ?_) (.imm _ _ VI_tup1)
        rcases h2 with ⟨h2, _⟩ | ⟨bm, es, clk, seen, h2, h3, h4, h6, h7, h8, h9, h10, h11, h12⟩
        · exact run_next_nil_at h2 ty
        · obtain ⟨e0, rfl, rfl⟩ := h12 rfl
          rcases run_next_at (P := C.P) w ty r bm clk clk _ _ clk h2 (hI.mem _ _ h3) h4.1 (Nat.le_refl _) with ⟨_, h⟩ | ⟨e, he, _⟩
          · exact h
          · simp [leftOf] at he
      · rename_i k u hG
        cases h
        rw [hG] at hobj
        obtain ⟨r', h1, h2⟩ := hobj
        rw [hr] at h1; cases h1
        rcases h2 with ⟨_, h2⟩ | ⟨bm, es, clk, seen, h2, h3, h4, h6, h7, h8, h9, h10, h11, h12⟩
        · cases h2
        · obtain ⟨e0, rfl⟩ := size_one (by simpa using h6.symm)
          have hs := h11 rfl
          subst hs
          have hk := h9 0 k rfl
          have hu := h10 0 u rfl
          simp only [Array.getD_eq_getD_getElem?, List.getElem?_toArray, List.getElem?_cons_zero, Option.getD_some] at hk hu
          rcases run_next_at (P := C.P) w ty r bm clk clk #[] _ clk h2 (hI.mem _ _ h3) h4.1 (Nat.le_refl _) with ⟨h, _⟩ | ⟨e, he, w1, hw1, hrun⟩
          · simp [leftOf] at h
          · have hee : e = e0 := by simpa [leftOf] using he
            subst hee
            have hheap : w1.heap = w.heap := by rcases hw1 with rfl | rfl <;> rfl
            have hlt : r < w.heap.size := (Array.getElem?_eq_some_iff.1 h2).1
            have hown := hI.own q _ r (by rw [hG]; rfl) (by rw [hG]; rfl) hr rfl
            refine good_set hI hr rfl (by rw [hG]; rfl) (by rw [hG]; rfl) (fun _ _ _ _ e => by cases e) (w2 := ChangeMaps.setBlock w1 r (.mapIter (some bm) clk ((#[] : Array Nat).push e.born) clk)) ?_ (fun b hb => ?_) (fun hE => ?_) (fun hE => ?_) (run_vNext hrun) (.inl rfl)
            · refine ⟨?_, ?_, ?_, ?_, fun b hb => ?_⟩
              · rcases hw1 with rfl | rfl <;> rfl
              · rcases hw1 with rfl | rfl <;> rfl
              · rcases hw1 with rfl | rfl <;> rfl
              · simp [ChangeMaps.setBlock, hheap]
              · simp only [ChangeMaps.setBlock, hheap, Array.getElem?_setIfInBounds]
                rw [if_neg (fun e : r = b => hb (e ▸ hown.2))]
            · simp only [ChangeMaps.setBlock, hheap, Array.getElem?_setIfInBounds]
              rw [if_neg (fun e => hb e.symm)]
            · unfold ObjOK
              simp only [upd, if_true]
              refine ⟨r, hr, .inr ⟨bm, #[e], clk, #[e.born], ?_, h3, h4, rfl, rfl, by simp, h9, h10, (fun e => by cases e), fun _ => ⟨e, rfl, rfl⟩⟩⟩
              simp [ChangeMaps.setBlock, hheap, hlt]
            · refine .imm _ _ (.tup _ _ rfl fun i x hx => ?_)
              match i, hx with
              | 0, hx => simp at hx; subst hx; exact .bool _
              | 1, hx => simp at hx; subst hx; exact hk
              | 2, hx => simp at hx; subst hx; exact hu
              | i + 3, hx => simp at hx
      · cases h
  · cases h
theorem aEntry_ok {x v : AV} {c : Value} {ups : List (Nat × U)} (h : aEntry G x = some (.val v ups)) (hI : Inv Q w M ρ G nx) (hx : VA M ρ G x c) :
    ups = [] ∧ ∃ u, (Instr.entry c).run C.P w = .ok u w ∧ VA M ρ G v u := by
  unfold aEntry at h
  split at h
  · rename_i q
    cases hx with
    | ptr _ _ r hr =>
      have hobj := hI.obj q
      unfold ObjOK at hobj
      split at h
      · rename_i k u hG
        cases h
        rw [hG] at hobj
        obtain ⟨r', h1, h2⟩ := hobj
        rw [hr] at h1; cases h1
        rcases h2 with ⟨_, h2⟩ | ⟨bm, es, clk, seen, h2, h3, h4, h6, h7, h8, h9, h10, h11, h12⟩
        · cases h2
        · obtain ⟨e0, rfl, rfl⟩ := h12 rfl
          have hk := h9 0 k rfl
          have hu := h10 0 u rfl
          simp only [Array.getD_eq_getD_getElem?, List.getElem?_toArray, List.getElem?_cons_zero, Option.getD_some] at hk hu
          refine ⟨rfl, _, run_entry_at (P := C.P) w r bm clk #[] _ clk e0 h2 (hI.mem _ _ h3) (by simp) h4.2, .imm _ _ (.tup _ _ rfl fun i x hx => ?_)⟩
          match i, hx with
          | 0, hx => simp at hx; subst hx; exact hk
          | 1, hx => simp at hx; subst hx; exact hu
          | i + 2, hx => simp at hx
      · cases h
  · cases h
end Go.Abs

/- The abstract interpreter: one operation. -/
namespace Go.Abs
variable {id : Nat}
variable {M M' : Mem} {ρ ρ' : Ref} {G G' : Nat → Obj} {w w' : World} {nx : Nat} {Q : Nat → Prop} {P : Program} {C : Cfg} {L : Low}
def simple : Op → Bool
  | .panic _ | .defer _ => false
  | .call c => match c.callee with
    | .builtin .recover => false
    | .builtin _ => true
    | _ => false
  | _ => true
theorem parts_ok {tmps : Nat → AV} {arr : Array Value} (hT : TR M ρ G tmps arr) (ps : Array (Nat × Operand)) :
    Parts M ρ G (ps.toList.map fun p => (p.1, ev tmps p.2)) (ps.map fun (i, x) => (i, evV arr x)).toList := by
  refine ⟨by simp, fun k p q hp hq => ?_⟩
  simp only [Array.toList_map, List.getElem?_map, Option.map_eq_some_iff] at hp hq
  obtain ⟨a, ha, rfl⟩ := hp
  obtain ⟨b, hb, rfl⟩ := hq
  rw [ha] at hb
  cases hb
  exact ⟨rfl, hT.ev _⟩
theorem vl_ok {tmps : Nat → AV} {arr : Array Value} (hT : TR M ρ G tmps arr) (xs : Array Operand) : VL (VA M ρ G) (xs.toList.map (ev tmps)) (xs.map (evV arr)) := by
  refine ⟨by simp, fun i x hx => ?_⟩
  simp only [List.getElem?_map, Option.map_eq_some_iff] at hx
  obtain ⟨o, ho, rfl⟩ := hx
  have hi := (List.getElem?_eq_some_iff.1 ho).1
  have : at_ (xs.map (evV arr)) i = evV arr o := by
    have hlt : i < xs.size := by simpa using hi
    have e : xs[i] = o := by
      have := (List.getElem?_eq_some_iff.1 ho).2
      simpa using this
    simp [at_, Array.getD_eq_getD_getElem?, hlt, e]
  rw [this]
  exact hT.ev o
theorem Good.val {v : AV} {ups : List (Nat × U)} {s : Sem Value} (hI : Inv Q w M ρ G nx) (h : ups = [] ∧ ∃ u, s.run P w = .ok u w ∧ VA M ρ G v u) : Good id Q M ρ G nx w (updL G ups) v ((vNext s).run P w) := by
  obtain ⟨rfl, u, h1, h2⟩ := h
  exact Good.pure hI (run_vNext h1) h2
theorem arr1 {vs : Array Value} (h : vs.size = 1) : vs = #[at_ vs 0] := by
  apply Array.ext
  · simpa using h
  · intro i h1 h2
    obtain rfl : i = 0 := by simp at h2; omega
    simp [at_, Array.getD_eq_getD_getElem?, h1]
theorem arr2 {vs : Array Value} (h : vs.size = 2) : vs = #[at_ vs 0, at_ vs 1] := by
  apply Array.ext
  · simpa using h
  · intro i h1 h2
    have : i = 0 ∨ i = 1 := by simp at h2; omega
    rcases this with rfl | rfl <;> simp [at_, Array.getD_eq_getD_getElem?, h1]
theorem aBuiltin_ok {s : St} {id : Nat} {b : Builtin} {tys : Array TypeId} {ty : TypeId} {consts : Array Bool} {args : List AV} {vs : Array Value} {v : AV} {ups : List (Nat × U)} (hb : b ≠ .recover)
    (h : aBuiltin C s id b tys.toList args = some (.val v ups)) (hI : Inv Q w M ρ s.G nx) (hid : ρ id = none) (hlt : id < nx) (ha : VL (VA M ρ s.G) args vs) :
    Good id Q M ρ s.G nx w (updL s.G ups) v ((builtin b tys ty consts vs).run C.P w) := by
  have one : ∀ x, args = [x] → ∃ c, vs = #[c] ∧ VA M ρ s.G x c := fun x e => by
    subst e; exact ⟨_, arr1 (by have := ha.1; simpa using this.symm), ha.2 0 x rfl⟩
  have two : ∀ x y, args = [x, y] → ∃ c d, vs = #[c, d] ∧ VA M ρ s.G x c ∧ VA M ρ s.G y d := fun x y e => by
    subst e; exact ⟨_, _, arr2 (by have := ha.1; simpa using this.symm), ha.2 0 x rfl, ha.2 1 y rfl⟩
  unfold aBuiltin at h
  split at h
  · rename_i x
    obtain ⟨c, rfl, hx⟩ := one x rfl
    split at h
    · rename_i t htys
      obtain rfl : tys = #[t] := by apply Array.toList_inj.1; simpa using htys
      split at h
      · rename_i i hi
        split at h
        · rename_i n hn
          cases h
          exact Good.pure hI (run_vNext (lenA_ok hi hn hI hx)) (.imm _ _ (.int _ _))
        · cases h
      · cases h
    · cases h
  · rename_i k a kk b'
    obtain ⟨c, d, rfl, hx, hy⟩ := two _ _ rfl
    obtain rfl := hx.int_inv
    obtain rfl := hy.int_inv
    cases h
    refine Good.pure hI (run_vNext (c := .int k (if b' > a then b' else a)) ?_) (.imm _ _ (.int _ _))
    simp [Builtin.max_, Builtin.max2]
  · rename_i k a kk b'
    obtain ⟨c, d, rfl, hx, hy⟩ := two _ _ rfl
    obtain rfl := hx.int_inv
    obtain rfl := hy.int_inv
    cases h
    refine Good.pure hI (run_vNext (c := .int k (if b' < a then b' else a)) ?_) (.imm _ _ (.int _ _))
    simp [Builtin.min_, Builtin.min2]
  · rename_i a x
    obtain ⟨c, d, rfl, hx, hy⟩ := two _ _ rfl
    split at h
    · rename_i t u htys
      obtain rfl : tys = #[t, u] := by apply Array.toList_inj.1; simpa using htys
      exact aAppend_ok h hI hid hlt hx hy
    · cases h
  · exact absurd rfl hb
  · cases h
theorem opA_simple {s : St} {id : Nat} {o : Oper} {v : AV} {ups : List (Nat × U)} {arr : Array Value} (hs : simple o.op = true) (h : opA C L id s o.op = some (.val v ups)) (hI : Inv Q w M ρ s.G nx) (hid : ρ id = none) (hlt : id < nx)
    (hT : TR M ρ s.G s.tmps arr) : Good id Q M ρ s.G nx w (updL s.G ups) v ((execOp (evV arr) o).run C.P w) := by
  obtain ⟨dst, op, ty, pos, aft, gd⟩ := o
  simp only at hs h
  unfold opA at h
  unfold execOp
  cases op with
  | move x => cases h; exact Good.pure hI rfl (hT.ev x)
  | assign x => cases h; exact Good.pure hI rfl (hT.ev x)
  | pick c a b =>
    simp only at h
    split at h
    · rename_i t hc
      cases h
      have := hT.ev c
      rw [hc] at this
      have e := this.bool_inv
      refine Good.pure hI (c := if t then evV arr a else evV arr b) ?_ ?_
      · simp [e, asBool]
      · cases t
        · exact hT.ev b
        · exact hT.ev a
    · cases h
  | alloc t => exact aAlloc_ok h hI hid hlt
  | box t x => exact aBox_ok h hI hid hlt (hT.ev x)
  | build t ps => exact Good.val hI (aBuild_ok h (parts_ok hT ps))
  | buildSlice t n ps => exact aBuildSlice_ok h hI hid hlt (parts_ok hT ps)
  | makeSlice t l c => exact aMakeSlice_ok h hI hid hlt (hT.ev l) (hT.ev c)
  | load t a => exact Good.val hI (aLoad_ok h hI (hT.ev a))
  | store t a x => exact aStore_ok h hI (hT.ev a) (hT.ev x)
  | nilCheck x =>
    have hx := hT.ev x
    simp only at h ⊢
    generalize ev s.tmps x = ax at h hx
    generalize evV arr x = cx at hx ⊢
    unfold aNilCheck at h
    split at h
    · cases h; cases hx; exact Good.pure hI rfl (.ptr _ _ _ (by assumption))
    · cases h
      have hx' := hx
      have := hx.imm_inv
      cases this
      exact Good.pure hI rfl hx'
    · cases h
      have hx' := hx
      have := hx.imm_inv
      cases this
      rename_i f cap vs hl h'
      refine Good.pure hI (c := .func f #[] vs) ?_ hx'
      cases f <;> rfl
    · cases h
      have hx' := hx
      cases hx
      rename_i f cap vs hl h'
      refine Good.pure hI (c := .func f #[] vs) ?_ hx'
      cases f <;> rfl
    · cases h
      have hx' := hx
      cases hx
      exact Good.pure hI rfl hx'
    · cases h
  | binOp op t x y z =>
    simp only at h
    split at h
    · rename_i v' hv
      cases h
      exact Good.val hI ⟨rfl, binA_ok hv (hT.ev x) (hT.ev y)⟩
    · cases h
  | unOp op t x =>
    simp only at h
    split at h
    · rename_i v' hv
      cases h
      exact Good.val hI ⟨rfl, unA_ok hv (hT.ev x)⟩
    · cases h
  | convert a b x => exact Good.val hI (aConvert_ok h hI (hT.ev x))
  | makeInterface t x => exact Good.val hI (aMakeInterface_ok h (hT.ev x))
  | makeFunc f first cap =>
    simp only at h
    split at h
    · rename_i h0
      cases h
      have : first.map (evV arr) = #[] := Array.eq_empty_of_size_eq_zero (by simpa using h0)
      refine Good.pure hI (c := .func f #[] (cap.map (evV arr))) ?_ (VA_mkFn (vl_ok hT cap))
      show (vNext (Instr.makeFunc f (first.map (evV arr)) (cap.map (evV arr)))).run C.P w = _
      rw [this]
      rfl
    · cases h
  | makeMap t r =>
    cases r with
    | some _ => simp at h
    | none =>
      simp only at h
      cases h
      exact makeMap_ok hI hid hlt
  | fieldAddr t x f => exact Good.val hI (aFieldAddr_ok h (hT.ev x))
  | indexAddr t x ix => exact Good.val hI (aIndexAddr_ok h hI (hT.ev x) (hT.ev ix))
  | index t x ix => exact Good.val hI (aIndex_ok h (hT.ev x) (hT.ev ix))
  | lookup t m k ok => exact Good.val hI (lookA_ok h hI (hT.ev m) (hT.ev k))
  | mapUpdate t m k x => exact aMapUpdate_ok h hI (hT.ev m) (hT.ev k) (hT.ev x)
  | insert t m k x => exact aMapUpdate_ok h hI (hT.ev m) (hT.ev k) (hT.ev x)
  | extract x i => exact Good.val hI (aExtract_ok h (hT.ev x))
  | range t x => exact aRange_ok h hI hid hlt (hT.ev x)
  | next x b => exact aNext_ok h hI (hT.ev x)
  | entry x => exact Good.val hI (aEntry_ok h hI (hT.ev x))
  | slice t x lo hi mx =>
    cases mx with
    | some _ => simp at h
    | none => exact aSlice_ok h hI hT
  | typeAssert x t' t ok => exact Good.val hI (aTypeAssert_ok h (hT.ev x))
  | call c =>
    obtain ⟨callee, args, ats⟩ := c
    cases callee with
    | builtin b =>
      simp only at h
      have hb : b ≠ .recover := fun e => by subst e; simp [simple] at hs
      have key := fun consts => aBuiltin_ok (w := w) (ty := ty) (consts := consts) hb h hI hid hlt (vl_ok hT args)
      simp only [resolve, invoke, pure_bind]
      exact key _
    | _ => simp [simple] at hs
  | _ => simp [simple] at hs h
end Go.Abs

/- The abstract interpreter: the machine's steps. -/
namespace Go.Abs
variable {M M' : Mem} {ρ ρ' : Ref} {G G' : Nat → Obj} {w w' : World} {nx : Nat} {Q Q' : Nat → Prop} {P : Program} {C : Cfg} {L : Low}
theorem eval_evV (a : Act) : a.eval = evV a.tmps := funext fun x => by cases x <;> rfl
def csM : Pk → List Frame → List Frame
  | .dfr (some _) true, c :: rest => { c with mode := match c.mode with
      | .panicking (e :: older) => .panicking ({ e with recovered := true } :: older)
      | m => m } :: rest
  | _, cs => cs
def PkOK (M : Mem) (b : Frame) (cs : List Frame) : Pk → Prop
  | .no => b.kind = .normal ∧ b.roundOf = none
  | .rnd => b.kind = .normal ∧ b.roundOf ≠ none
  | .dfr none _ => b.kind = .deferred ∧ b.roundOf = none ∧ ∃ c rest, cs = c :: rest ∧ c.mode = .returning
  | .dfr (some v) _ => b.kind = .deferred ∧ b.roundOf = none ∧ ∃ c rest x, cs = c :: rest ∧ c.mode = .panicking [{ v := x, recovered := false }] ∧ VI M v x
theorem PkOK.mono {b : Frame} {cs : List Frame} {pk : Pk} (h : PkOK M b cs pk) (hm : M.le M') : PkOK M' b cs pk := by
  cases pk with
  | no => exact h
  | rnd => exact h
  | dfr m r => cases m with
    | none => exact h
    | some v => obtain ⟨h1, h2, c, rest, x, h3, h4, h5⟩ := h; exact ⟨h1, h2, c, rest, x, h3, h4, h5.mono hm⟩
section steps
variable {b : Frame} {a : Act} {k : List Item} {cs : List Frame} {ops : Array Oper} {i : Nat} {rest : List Nat} {o : Oper}
theorem finR (ho : ops[i]? = some o) (v : Value) : (b.atR a (.inRegion ops (i :: rest) :: k)).finish v = b.atR (a.put o.dst v) (.inRegion ops rest :: k) := by
  rw [Frame.finish_atR, ho]; rfl
theorem step_value {c : Value} {nxt : Next} (ho : ops[i]? = some o) (hw : Region.wanted o (yielded ops a.tmps) = true) (hd : ∀ c, o.op ≠ .defer c)
    (hr : (execOp (evV a.tmps) o).run P w = .ok nxt w') (hn : nxt = .value c ∨ nxt = .skip ∧ c = Go.undef) :
    step P (lone (b.atR a (.inRegion ops (i :: rest) :: k)) cs w) = .next (lone (b.atR (a.put o.dst c) (.inRegion ops rest :: k)) cs w') := by
  refine step_lone_go ?_
  rw [stepGR_op ho hw, Oper.semAt_eq _ _ _ hd, eval_evV, ← finR ho]
  rcases hn with rfl | ⟨rfl, rfl⟩ <;> simp [stepG.apply, hr]
theorem step_enter {f : FuncId} {args : Array Value} (ho : ops[i]? = some o) (hw : Region.wanted o (yielded ops a.tmps) = true) (hd : ∀ c, o.op ≠ .defer c)
    (hr : (execOp (evV a.tmps) o).run P w = .ok (.enter f args) w') :
    step P (lone (b.atR a (.inRegion ops (i :: rest) :: k)) cs w) = .next (lone (Frame.enter P f args .normal) (b.atR a (.inRegion ops (i :: rest) :: k) :: cs) w') := by
  refine step_lone_go ?_
  rw [stepGR_op ho hw, Oper.semAt_eq _ _ _ hd, eval_evV]
  simp [stepG.apply, hr, Frame.atR]
theorem step_round {l : Nat} {f : FuncId} {tmps : Array Value} {x y : Code} (ho : ops[i]? = some o) (hw : Region.wanted o (yielded ops a.tmps) = true) (hd : ∀ c, o.op ≠ .defer c)
    (hr : (execOp (evV a.tmps) o).run P w = .ok (.round l f tmps x y) w') :
    step P (lone (b.atR a (.inRegion ops (i :: rest) :: k)) cs w) = .next (lone (Frame.round l f tmps x y .normal) (b.atR a (.inRegion ops (i :: rest) :: k) :: cs) w') := by
  refine step_lone_go ?_
  rw [stepGR_op ho hw, Oper.semAt_eq _ _ _ hd, eval_evV]
  simp [stepG.apply, hr]
theorem step_deferOp {d : Deferred} (hb : b.roundOf = none) (ho : ops[i]? = some o) (hw : Region.wanted o (yielded ops a.tmps) = true)
    (hr : (execOp (evV a.tmps) o).run P w = .ok (.defer d) w') :
    step P (lone (b.atR a (.inRegion ops (i :: rest) :: k)) cs w) = .next (lone (b.atR ({ a with defers := d :: a.defers }.put o.dst undef) (.inRegion ops rest :: k)) cs w') := by
  refine step_lone_go ?_
  rw [stepGR_op ho hw, hb, Oper.semAt_none, eval_evV]
  have : ({ b.atR a (.inRegion ops (i :: rest) :: k) with defers := d :: a.defers } : Frame).finish undef =
      b.atR ({ a with defers := d :: a.defers }.put o.dst undef) (.inRegion ops rest :: k) := by
    have := finR (b := b) (a := { a with defers := d :: a.defers }) (k := k) (rest := rest) ho undef
    exact this
  simp only [stepG.apply, Sem.runT_eq, hr, GStep.bare_after]
  exact congrArg (fun fr => GStep.go { frame := fr, callers := cs, status := .running, dying := none } w') this
theorem step_panic {v : Value} (ho : ops[i]? = some o) (hw : Region.wanted o (yielded ops a.tmps) = true) (hd : ∀ c, o.op ≠ .defer c)
    (hr : (execOp (evV a.tmps) o).run P w = .halt (.panic v) w') :
    step P (lone (b.atR a (.inRegion ops (i :: rest) :: k)) cs w) = .next (lone { b.atR a (.inRegion ops (i :: rest) :: k) with mode := .panicking [{ v, recovered := false }] } cs w') := by
  refine step_lone_go ?_
  rw [stepGR_op ho hw, Oper.semAt_eq _ _ _ hd, eval_evV, ← Frame.raise_atR]
  simp [stepG.apply, hr]
theorem step_recoverOp {v : Value} {c : Frame} {cr : List Frame} (hb : b.roundOf = none) (hk : b.kind = .deferred) (hc : c.mode = .panicking [{ v, recovered := false }]) (ho : ops[i]? = some o) (hw : Region.wanted o (yielded ops a.tmps) = true)
    (hd : ∀ c, o.op ≠ .defer c) (hr : (execOp (evV a.tmps) o).run P w = .ok .recover w') :
    step P (lone (b.atR a (.inRegion ops (i :: rest) :: k)) (c :: cr) w) =
      .next (lone (b.atR (a.put o.dst v) (.inRegion ops rest :: k)) ({ c with mode := .panicking [{ v, recovered := true }] } :: cr) w') := by
  refine step_lone_go ?_
  rw [stepGR_op ho hw, Oper.semAt_eq _ _ _ hd, eval_evV, ← finR ho]
  simp [stepG.apply, hr, Frame.atR, hb, hk, hc, tryRecover]
theorem step_recoverNil {c : Frame} {cr : List Frame} (hb : b.roundOf = none) (hk : b.kind = .deferred) (hc : c.mode = .returning) (ho : ops[i]? = some o) (hw : Region.wanted o (yielded ops a.tmps) = true)
    (hd : ∀ c, o.op ≠ .defer c) (hr : (execOp (evV a.tmps) o).run P w = .ok .recover w') :
    step P (lone (b.atR a (.inRegion ops (i :: rest) :: k)) (c :: cr) w) = .next (lone (b.atR (a.put o.dst .nilIface) (.inRegion ops rest :: k)) (c :: cr) w') := by
  refine step_lone_go ?_
  rw [stepGR_op ho hw, Oper.semAt_eq _ _ _ hd, eval_evV, ← finR ho]
  simp [stepG.apply, hr, Frame.atR, hb, hk, hc, tryRecover]
end steps
end Go.Abs

/- The abstract interpreter: calls. -/
namespace Go.Abs
variable {M M' M'' : Mem} {ρ ρ' ρ'' : Ref} {G G' G'' : Nat → Obj} {w w' w'' : World} {nx nx' : Nat} {Q Q' Q'' : Nat → Prop} {P : Program} {C : Cfg} {L : Low}
theorem Inv.later (h : Inv Q w M ρ G nx) (hn : nx ≤ nx') : Inv Q w M ρ G nx' := { h with free := fun o ho => h.free o (by omega) }
theorem Inv.blkQ (h : Inv Q w M ρ G nx) {o b : Nat} {v : Value} (hl : (G o).live = true) (hv : ρ o = some v) (hb : blk v = some b) : M b ≠ none ∨ (M b = none ∧ Q b) := by
  by_cases hf : (G o).frozen = true
  · left
    have := h.obj o
    unfold ObjOK at this
    cases e : G o with
    | gone => rw [e] at hl; simp [Obj.live] at hl
    | box cs fr =>
      rw [e] at this hf
      obtain ⟨b', vs, e', h1, h2, h3, h4⟩ := this
      rw [hv] at h1; cases h1; simp [blk] at hb; subst hb
      exact h4 (by simpa [Obj.frozen] using hf)
    | row et sz xs fr =>
      rw [e] at this hf
      obtain ⟨_, v', cs, h1, h2, h3, h4⟩ := this
      rw [hv] at h1; cases h1
      exact h4 (by simpa [Obj.frozen] using hf) b hb
    | mp ks vs fr =>
      rw [e] at this hf
      obtain ⟨b', es, clk, h1, h2, h3, h4, h5, h6, h7, h8⟩ := this
      rw [hv] at h1; cases h1; simp [blk] at hb; subst hb
      exact h7 (by simpa [Obj.frozen] using hf)
    | it => rw [e] at hf; simp [Obj.frozen] at hf
    | lp => rw [e] at hf; simp [Obj.frozen] at hf
  · exact .inr (h.own o v b hl (by simpa using hf) hv hb)
theorem Inv.turn (h : Inv Q w M ρ G nx) (hw : ∀ b, w'.heap[b]? = w.heap[b]? ∨ (¬ Q b ∧ M b = none)) (hsz : w.heap.size ≤ w'.heap.size) : Inv Q w' M ρ G nx := by
  refine ⟨fun b o hm => ?_, fun o => ?_, h.free, h.gone, h.sep, h.own, fun b hb => h.new b (by omega)⟩
  · rcases hw b with h1 | ⟨_, h1⟩
    · rw [h1]; exact h.mem b o hm
    · rw [hm] at h1; cases h1
  · by_cases hl : (G o).live = true
    · refine (h.obj o).mono rfl rfl (Ev.refl _ _ _) fun v b hv hb => ?_
      rcases hw b with h1 | ⟨h1, h2⟩
      · exact h1
      · rcases h.blkQ hl hv hb with h3 | ⟨_, h3⟩
        · exact absurd h2 h3
        · exact absurd h3 h1
    · have : G o = .gone := by cases e : G o <;> simp_all [Obj.live]
      unfold ObjOK; rw [this]; trivial
def QN (w : World) : Nat → Prop := fun b => w.heap.size ≤ b
theorem Ev.mem' (hm : M.le M') : Ev M ρ G M' ρ G := ⟨hm, fun _ _ h => .inl h, fun _ _ _ _ xs fr h => ⟨xs, fr, h, Nat.le_refl _, fun _ => rfl⟩⟩
theorem Inv.ext (h : Inv Q w M ρ G nx) (hm : M.le M') (hw : WS (QN w) w w') (hq : MQ (QN w) M M') (hmem : ∀ b o, M' b = some o → w'.heap[b]? = some o) : Inv Q w' M' ρ G nx := by
  have hold : ∀ b, b < w.heap.size → w'.heap[b]? = w.heap[b]? := fun b hb => hw.block b (by simp only [QN]; omega)
  refine ⟨hmem, fun o => ?_, h.free, h.gone, h.sep, fun o v b h1 h2 h3 h4 => ?_, fun b hb => h.new b (by have := hw.size; omega)⟩
  · by_cases hl : (G o).live = true
    · exact (h.obj o).mono rfl rfl (Ev.mem' hm) fun v b hv hb => hold b (h.lt hl hv hb)
    · have : G o = .gone := by cases e : G o <;> simp_all [Obj.live]
      unfold ObjOK; rw [this]; trivial
  · have ho := h.own o v b h1 h2 h3 h4
    refine ⟨?_, ho.2⟩
    cases e : M' b with
    | none => rfl
    | some x =>
      rcases hq b (by rw [e]; simp) with h5 | h5
      · exact absurd ho.1 h5
      · have := h.lt h1 h3 h4; simp only [QN] at h5; omega
theorem Inv.add (h : Inv Q w M ρ G nx) {q : Nat} {x : Obj} {r : Value} (hq : q < nx) (hn : ρ q = none) (hx : ObjOK w M (upd ρ q (some r)) (upd G q x) q)
    (hb : ∀ b, blk r = some b → M b = none ∧ Q b ∧ ∀ o v, (G o).live = true → ρ o = some v → blk v ≠ some b) : Inv Q w M (upd ρ q (some r)) (upd G q x) nx := by
  have hv : Ev M ρ G M (upd ρ q (some r)) (upd G q x) := Ev.new hn
  refine ⟨h.mem, fun o => ?_, fun o ho => ?_, fun o ho => ?_, ?_, ?_, h.new⟩
  · by_cases hoq : o = q
    · subst hoq; exact hx
    · exact (h.obj o).mono (by simp [upd, hoq]) (by simp [upd, hoq]) hv (fun _ _ _ _ => rfl)
  · simp only [upd]; rw [if_neg (by omega)]; exact h.free o ho
  · by_cases hoq : o = q
    · subst hoq; simp [upd] at ho
    · simp only [upd, if_neg hoq] at ho ⊢; exact h.gone o ho
  · intro o o' v v' b hl hl' hv1 hv2 hb1 hb2
    by_cases ho : o = q
    · by_cases ho' : o' = q
      · rw [ho, ho']
      · exfalso
        subst ho
        simp only [upd, if_true, Option.some.injEq] at hv1
        subst hv1
        simp only [upd, if_neg ho'] at hl' hv2
        exact (hb b hb1).2.2 o' v' hl' hv2 hb2
    · by_cases ho' : o' = q
      · exfalso
        subst ho'
        simp only [upd, if_true, Option.some.injEq] at hv2
        subst hv2
        simp only [upd, if_neg ho] at hl hv1
        exact (hb b hb2).2.2 o v hl hv1 hb1
      · simp only [upd, if_neg ho] at hl hv1
        simp only [upd, if_neg ho'] at hl' hv2
        exact h.sep o o' v v' b hl hl' hv1 hv2 hb1 hb2
  · intro o v b hl hfr hv1 hb1
    by_cases ho : o = q
    · subst ho
      simp only [upd, if_true, Option.some.injEq] at hv1
      subst hv1
      exact ⟨(hb b hb1).1, (hb b hb1).2.1⟩
    · simp only [upd, if_neg ho] at hl hfr hv1
      exact h.own o v b hl hfr hv1 hb1
/-! ### how a state comes of another one -/
structure Tr (N : Nat → Prop) (Q : Nat → Prop) (w : World) (M : Mem) (ρ : Ref) (G : Nat → Obj) (Q' : Nat → Prop) (w' : World) (M' : Mem) (ρ' : Ref) (G' : Nat → Obj) : Prop where
  sub : ∀ b, Q' b → Q b
  ev : Ev M ρ G M' ρ' G'
  ws : WS Q w w'
  mq : MQ Q M M'
  born : ∀ o, ¬ N o → ρ o = none → ρ' o = none
theorem Tr.refl (N Q : Nat → Prop) (w : World) (M : Mem) (ρ : Ref) (G : Nat → Obj) : Tr N Q w M ρ G Q w M ρ G :=
  ⟨fun _ h => h, Ev.refl _ _ _, WS.refl _ _, MQ.refl _ _, fun _ _ h => h⟩
theorem WS.sub (h : WS Q' w w') (hq : ∀ b, Q' b → Q b) : WS Q w w' := ⟨h.os, h.tape, h.output, h.size, fun b hb => h.block b fun hb' => hb (hq b hb')⟩
theorem MQ.sub (h : MQ Q' M M') (hq : ∀ b, Q' b → Q b) : MQ Q M M' := fun b hb => (h b hb).imp (fun h => h) (hq b)
theorem Tr.trans {N1 N2 N : Nat → Prop} (h : Tr N1 Q w M ρ G Q' w' M' ρ' G') (k : Tr N2 Q' w' M' ρ' G' Q'' w'' M'' ρ'' G'') (h1 : ∀ o, N1 o → N o) (h2 : ∀ o, N2 o → N o) : Tr N Q w M ρ G Q'' w'' M'' ρ'' G'' :=
  ⟨fun b hb => h.sub b (k.sub b hb), h.ev.trans k.ev, h.ws.trans (k.ws.sub h.sub), h.mq.trans (k.mq.sub h.sub), fun o ho hr => k.born o (fun e => ho (h2 o e)) (h.born o (fun e => ho (h1 o e)) hr)⟩
theorem Tr.weak {N N' : Nat → Prop} (h : Tr N Q w M ρ G Q' w' M' ρ' G') (hn : ∀ o, N o → N' o) : Tr N' Q w M ρ G Q' w' M' ρ' G' :=
  { h with born := fun o ho => h.born o fun e => ho (hn o e) }
/-! ### deferred calls -/
inductive DR (Q0 Q : Nat → Prop) (w : World) (M : Mem) (ρ : Ref) (G : Nat → Obj) : List (AV × List AV) → List Deferred → Prop
  | nil : DR Q0 Q w M ρ G [] []
  | cons {g : AV} {ars : List AV} {ds : List (AV × List AV)} {d : Deferred} {dcs : List Deferred} (f : Fn) (cap : Array Value) (ht : d.target = .fn f cap) (hg : VA M ρ G g (.func f #[] cap)) (ha : VL (VA M ρ G) ars d.args) (h : DR Q0 Q w M ρ G ds dcs) :
      DR Q0 Q w M ρ G ((g, ars) :: ds) (d :: dcs)
  | mark {ds : List (AV × List AV)} {d : Deferred} {dcs : List Deferred} (r : Nat) (ht : d.target = .collected r) (q0 : Q0 r) (q : ¬ Q r) (hm : M r = none) (hr : w.heap[r]? = some (.deferred (some [])))
      (hn : ∀ x ∈ dcs, x.target ≠ .collected r) (h : DR Q0 Q w M ρ G ds dcs) : DR Q0 Q w M ρ G ds (d :: dcs)
theorem DR.mono {Q0 N : Nat → Prop} {ds : List (AV × List AV)} {dcs : List Deferred} (h : DR Q0 Q w M ρ G ds dcs) (t : Tr N Q w M ρ G Q' w' M' ρ' G') : DR Q0 Q' w' M' ρ' G' ds dcs := by
  induction h with
  | nil => exact .nil
  | cons f cap ht hg ha h ih => exact .cons f cap ht (hg.mono t.ev) (ha.imp fun _ _ => VA.mono t.ev) ih
  | mark r ht q0 q hm hr hn h ih =>
    refine .mark r ht q0 (fun e => q (t.sub r e)) ?_ ((t.ws.block r q).trans hr) hn ih
    cases e : M' r with
    | none => rfl
    | some x => rcases t.mq r (by rw [e]; simp) with h1 | h1
                · exact absurd hm h1
                · exact absurd h1 q
structure SR (nt : Nat) (Q0 Q : Nat → Prop) (w : World) (M : Mem) (ρ : Ref) (s : St) (a : Act) : Prop where
  inv : Inv Q w M ρ s.G s.nx
  tmps : TR M ρ s.G s.tmps a.tmps
  size : a.tmps.size = nt
  sub : ∀ b, Q b → Q0 b
  dfr : DR Q0 Q w M ρ s.G s.defers a.defers
/-! ### contracts -/
def PInv (P : Program) (f : FuncId) : Prop := ∃ fn, P.funcs[f]? = some fn ∧ fn.body.isSome = true
def CallEnd (P : Program) (m : Machine) (pk' : Pk) (kind : CallKind) (cs : List Frame) (f : FuncId) (w' : World) (M' : Mem) (ρ' : Ref) : CR → Prop
  | .ret v G' _ => ∃ fr cv fn, Steps P m (lone fr (csM pk' cs) w') ∧ fr.mode = .returning ∧ fr.defers = [] ∧ fr.kind = kind ∧ fr.fn = f ∧ P.funcs[f]? = some fn ∧ (results fn fr.tmps).run P w' = .ok cv w' ∧ VA M' ρ' G' v cv
  | .pan v _ _ => ∃ fr x fn, Steps P m (lone fr (csM pk' cs) w') ∧ fr.mode = .panicking [{ v := x, recovered := false }] ∧ fr.defers = [] ∧ fr.kind = kind ∧ fr.fn = f ∧ P.funcs[f]? = some fn ∧ VI M' v x
def CR.mem : CR → Nat → Obj
  | .ret _ G _ => G
  | .pan _ G _ => G
def CR.lim : CR → Nat
  | .ret _ _ n => n
  | .pan _ _ n => n
def CallOK (P : Program) (L : Low) : Prop := ∀ f args pk G nx res pk', L.call f args pk G nx = some (res, pk') → PInv P f ∧
  ∀ Q w M ρ vs kind cs, Inv Q w M ρ G nx → VL (VA M ρ G) args vs → PkOK M (Frame.enter P f vs kind) cs pk → ∃ Q' w' M' ρ', Tr (nx ≤ ·) Q w M ρ G Q' w' M' ρ' res.mem ∧ Inv Q' w' M' ρ' res.mem res.lim ∧ nx ≤ res.lim ∧
    PkOK M' (Frame.enter P f vs kind) cs pk' ∧ CallEnd P (lone (Frame.enter P f vs kind) (csM pk cs) w) pk' kind cs f w' M' ρ' res
def RoundEnd (P : Program) (m : Machine) (c : Frame) (cs : List Frame) (w' : World) (M' : Mem) (ρ' : Ref) : CR → Prop
  | .ret v G' _ => ∃ cv, Steps P m (lone (c.finish cv) cs w') ∧ VA M' ρ' G' v cv
  | .pan v _ _ => ∃ x', Steps P m (lone (c.raise [{ v := x', recovered := false }]) cs w') ∧ VI M' v x'
def RoundOK (P : Program) (L : Low) : Prop := ∀ q args G nx res pk', L.round q args G nx = some (res, pk') →
  ∀ Q w M ρ vs l, Inv Q w M ρ G nx → VL (VA M ρ G) args vs → ρ q = some (.func (.yield l) #[] #[]) → ∃ f tmps x y, (Instr.yield l vs).run P w = .ok (.round l f tmps x y) w ∧
    ∀ c cs, ∃ Q' w' M' ρ', Tr (nx ≤ ·) Q w M ρ G Q' w' M' ρ' res.mem ∧ Inv Q' w' M' ρ' res.mem res.lim ∧ nx ≤ res.lim ∧
      RoundEnd P (lone (Frame.round l f tmps x y .normal) (c :: cs) w) c cs w' M' ρ' res
def OrcEnd (w : World) (M : Mem) (cv : Value) (w' : World) : OrcR → Prop
  | .dat x => ∃ M', M.le M' ∧ MQ (QN w) M M' ∧ (∀ b o, M' b = some o → w'.heap[b]? = some o) ∧ VI M' x cv
  | .own et sz xs => ∃ M' cs, M.le M' ∧ MQ (QN w) M M' ∧ (∀ b o, M' b = some o → w'.heap[b]? = some o) ∧ 0 < sz ∧ w'.ownsRow 0 et sz cv xs.length cs ∧ (∀ b, blk cv = some b → M' b = none ∧ w.heap.size ≤ b) ∧
      (∀ x ∈ xs, (AV.imm x).fits sz = true) ∧ ∀ (i : Nat) x (j : Nat) y, xs[i]? = some x → (IV.cells x)[j]? = some y → VI M' y (cs.getD (i * sz + j) Go.undef)
def OrcOK (C : Cfg) : Prop := ∀ f ivs r, C.orc f ivs = some r → PInv C.P f ∧
  ∀ M w vs, (∀ b o, M b = some o → w.heap[b]? = some o) → VL (VI M) ivs vs → Calls C.P f vs w fun e w' => ∃ cv, e = .returned cv ∧ WS (QN w) w w' ∧ OrcEnd w M cv w' r
structure CfgOK (C : Cfg) : Prop where
  mixed : C.P.follows .mixedOrders = true
  ng : ∀ (f : FuncId) (fn : Func), C.P.funcs[f]? = some fn → fn.body.isSome = true → (fn.name == "runtime.NumGoroutine") = false
  orc : OrcOK C
theorem run_callFunc (hC : CfgOK C) {f : FuncId} {vs : Array Value} (h : PInv C.P f) : (callFunc f vs).run C.P w = .ok (.enter f vs) w := by
  obtain ⟨fn, h1, h2⟩ := h
  have h3 := hC.ng f fn h1 h2
  have h4 : fn.body ≠ none := by cases e : fn.body <;> simp_all
  have h3' : fn.name ≠ "runtime.NumGoroutine" := by simpa using h3
  simp [callFunc, h1, h3', h4]
theorem VL_imms {ivs : List IV} {vs : Array Value} (h : VL (VI M) ivs vs) : VL (VA M ρ G) (ivs.map .imm) vs := by
  refine ⟨by simpa using h.1, fun i x hx => ?_⟩
  rw [List.getElem?_map, Option.map_eq_some_iff] at hx
  obtain ⟨y, hy, rfl⟩ := hx
  exact .imm _ _ (h.2 i y hy)
theorem Inv.empty (hm : ∀ b o, M b = some o → w.heap[b]? = some o) : Inv (QN w) w M (fun _ => none) (fun _ => .gone) 0 := by
  refine ⟨hm, fun o => trivial, fun _ _ => rfl, fun _ _ => rfl, ?_, ?_, fun b hb => hb⟩
  · intro o o' v v' b h; simp [Obj.live] at h
  · intro o v b h; simp [Obj.live] at h
theorem imm_cells (z : IV) : (AV.imm z).cells = z.cells.map .imm := by cases z <;> rfl
def CallRes (P : Program) (id : Nat) (s : St) (m : List Frame → Machine) (Q : Nat → Prop) (w : World) (M : Mem) (ρ : Ref) (c : Frame) (cs : List Frame) : Ef → Prop
  | .val v ups => ∃ Q' w' M' ρ' cv, Tr (fun o => o = id ∨ s.nx ≤ o) Q w M ρ s.G Q' w' M' ρ' (updL s.G ups) ∧ Inv Q' w' M' ρ' (updL s.G ups) s.nx ∧ Steps P (m (c :: cs)) (lone (c.finish cv) cs w') ∧ VA M' ρ' (updL s.G ups) v cv
  | .wr v s1 => s1 = { s with G := s1.G, nx := s1.nx } ∧ s.nx ≤ s1.nx ∧ ∃ Q' w' M' ρ' cv, Tr (fun o => o = id ∨ s.nx ≤ o) Q w M ρ s.G Q' w' M' ρ' s1.G ∧ Inv Q' w' M' ρ' s1.G s1.nx ∧ Steps P (m (c :: cs)) (lone (c.finish cv) cs w') ∧ VA M' ρ' s1.G v cv
  | .pan v s1 => s1 = { s with G := s1.G, nx := s1.nx } ∧ s.nx ≤ s1.nx ∧ ∃ Q' w' M' ρ' x, Tr (fun o => o = id ∨ s.nx ≤ o) Q w M ρ s.G Q' w' M' ρ' s1.G ∧ Inv Q' w' M' ρ' s1.G s1.nx ∧ Steps P (m (c :: cs)) (lone (c.raise [{ v := x, recovered := false }]) cs w') ∧ VI M' v x
theorem CallEnd.ret {m : Machine} {pk' : Pk} {cs : List Frame} {f : FuncId} {v : AV} {n : Nat} {c : Frame} (h : CallEnd P m pk' .normal (c :: cs) f w' M' ρ' (.ret v G' n)) (hp : pk' = .no) :
    ∃ cv, Steps P m (lone (c.finish cv) cs w') ∧ VA M' ρ' G' v cv := by
  obtain ⟨fr, cv, fn, h1, h2, h3, h4, h5, h6, h7, h8⟩ := h
  subst hp
  refine ⟨cv, h1.trans (.one (step_leave_returned ⟨h2, h3, h4, fn, ?_, h7⟩)), h8⟩
  rw [h5]; exact h6
theorem CallEnd.pan {m : Machine} {pk' : Pk} {cs : List Frame} {f : FuncId} {v : IV} {n : Nat} {c : Frame} (h : CallEnd P m pk' .normal (c :: cs) f w' M' ρ' (.pan v G' n)) (hp : pk' = .no) :
    ∃ x, Steps P m (lone (c.raise [{ v := x, recovered := false }]) cs w') ∧ VI M' v x := by
  obtain ⟨fr, x, fn, h1, h2, h3, h4, h5, h6, h7⟩ := h
  subst hp
  refine ⟨x, h1.trans (.one (step_leave_panicked ⟨h2, h3, fn, ?_⟩)), h7⟩
  rw [h5]; exact h6
theorem PkOK.no_of {b : Frame} {cs : List Frame} {pk : Pk} (h : PkOK M b cs pk) (hk : b.kind = .normal) (hr : b.roundOf = none) : pk = .no := by
  cases pk with
  | no => rfl
  | rnd => exact absurd hr h.2
  | dfr m r => cases m with
    | none => obtain ⟨h1, _⟩ := h; rw [hk] at h1; cases h1
    | some v => obtain ⟨h1, _⟩ := h; rw [hk] at h1; cases h1
theorem Tr.own {N : Nat → Prop} (hm : M.le M') (hw : WS (QN w) w w') (hq : MQ (QN w) M M') (hn : ∀ b, w.heap.size ≤ b → Q b) : Tr N Q w M ρ G Q w' M' ρ G :=
  ⟨fun _ h => h, Ev.mem' hm, hw.sub hn, hq.sub hn, fun _ _ h => h⟩
theorem peeks_VI {args : List AV} {vs : Array Value} {ivs : List IV} {ids : List Nat} (hI : Inv Q w M ρ G nx) (h : peeks G args = some (ivs, ids)) (hv : VL (VA M ρ G) args vs) :
    VL (VI (memOf w M ρ ids)) ivs vs ∧ ∀ o ∈ ids, (G o).data = true := by
  have key : ∀ (l : List AV) (xs : List IV) (is : List Nat), peekL (peek G pkDepth) l = some (xs, is) → (∀ o ∈ is, o ∈ ids) → xs.length = l.length ∧ (∀ o ∈ is, (G o).data = true) ∧ ∀ (i : Nat) x, xs[i]? = some x → ∃ a, l[i]? = some a ∧ ∀ c, VA M ρ G a c → VI (memOf w M ρ ids) x c := by
    intro l
    induction l with
    | nil => intro xs is h hin; simp only [peekL, Option.some.injEq, Prod.mk.injEq] at h; obtain ⟨rfl, rfl⟩ := h; exact ⟨rfl, by simp, by simp⟩
    | cons a r ih =>
      intro xs is h hin
      simp only [peekL] at h
      split at h
      · rename_i x ix h1
        split at h
        rotate_left
        · cases h
        rename_i xr ir h2
        cases h
        have := ih xr ir h2 (fun o ho => hin o (List.mem_append.2 (.inr ho)))
        refine ⟨by simp [this.1], fun o ho => ?_, fun i y hy => ?_⟩
        · rcases List.mem_append.1 ho with ho | ho
          · exact peek_live _ _ _ _ h1 o ho
          · exact this.2.1 o ho
        · cases i with
          | zero => simp at hy; subst hy; exact ⟨a, rfl, fun c hc => peek_VI hI _ _ _ _ _ h1 (fun o ho => hin o (List.mem_append.2 (.inl ho))) hc⟩
          | succ i => simpa using this.2.2 i y (by simpa using hy)
      · cases h
  obtain ⟨k1, k2, k3⟩ := key args ivs ids h (fun o h => h)
  refine ⟨⟨by rw [k1]; exact hv.1, fun i x hx => ?_⟩, k2⟩
  obtain ⟨a, ha, hc⟩ := k3 i x hx
  exact hc _ (hv.2 i a ha)
theorem callA_ok (hC : CfgOK C) (hL : CallOK C.P L) {id : Nat} {s : St} {f : FuncId} {args : List AV} {ef : Ef} (h : callA C L id s f args = some ef) {vs : Array Value} {c : Frame} {cs : List Frame} (hI : Inv Q w M ρ s.G s.nx) (hid : ρ id = none) (hlt : id < s.nx)
    (hv : VL (VA M ρ s.G) args vs) : PInv C.P f ∧ CallRes C.P id s (fun cs => lone (Frame.enter C.P f vs .normal) cs w) Q w M ρ c cs ef := by
  have hpk : ∀ M, PkOK M (Frame.enter C.P f vs .normal) (c :: cs) .no := fun M => ⟨rfl, rfl⟩
  unfold callA at h
  split at h
  · split at h
    · rename_i v G2 n2 pk2 hcall
      cases h
      obtain ⟨h1, h2⟩ := hL _ _ _ _ _ _ _ hcall
      obtain ⟨Q', w', M', ρ', t, i', n', p', e'⟩ := h2 Q w M ρ vs .normal (c :: cs) hI hv (hpk M)
      obtain ⟨cv, st, hcv⟩ := CallEnd.ret e' (p'.no_of rfl rfl)
      exact ⟨h1, rfl, n', Q', w', M', ρ', cv, t.weak (fun _ => .inr), i', st, hcv⟩
    · rename_i v G2 n2 pk2 hcall
      cases h
      obtain ⟨h1, h2⟩ := hL _ _ _ _ _ _ _ hcall
      obtain ⟨Q', w', M', ρ', t, i', n', p', e'⟩ := h2 Q w M ρ vs .normal (c :: cs) hI hv (hpk M)
      obtain ⟨x, st, hx⟩ := CallEnd.pan e' (p'.no_of rfl rfl)
      exact ⟨h1, rfl, n', Q', w', M', ρ', x, t.weak (fun _ => .inr), i', st, hx⟩
    · cases h
  · split at h
    · cases h
    · rename_i ivs ids hpks
      obtain ⟨hvi, hdat⟩ := peeks_VI hI hpks hv
      have hF := hI.frz hdat
      have hE := Ev.frz w M ρ s.G ids
      have hMQ := MQ.memOf hI hdat
      have hn : ∀ b, w.heap.size ≤ b → Q b := hI.new
      have tF : Tr (fun o => o = id ∨ s.nx ≤ o) Q w M ρ s.G Q w (memOf w M ρ ids) ρ (updL s.G (frz ids)) := ⟨fun _ h => h, hE, WS.refl _ _, hMQ, fun _ _ h => h⟩
      -- what comes back, as data
      have back : ∀ (r : IV) (v : AV) (ups : List (Nat × U)) (w' : World) (M' : Mem) (cv : Value), give ids r.scalar (.imm r) = .val v ups → (memOf w M ρ ids).le M' → WS (QN w) w w' → MQ (QN w) (memOf w M ρ ids) M' → (∀ b o, M' b = some o → w'.heap[b]? = some o) →
          VI M' r cv → Steps C.P (lone (Frame.enter C.P f vs .normal) (c :: cs) w) (lone (c.finish cv) cs w') → CallRes C.P id s (fun cs => lone (Frame.enter C.P f vs .normal) cs w) Q w M ρ c cs (.val v ups) := by
        intro r v ups w' M' cv hg hle hws hmq hmem hr hst
        unfold give at hg
        split at hg
        · rename_i hsc
          cases hg
          refine ⟨Q, w', M, ρ, cv, Tr.own (Mem.le_refl M) hws (MQ.refl _ _) hn, ?_, hst, .imm _ _ (hr.any hsc M)⟩
          exact hI.ext (Mem.le_refl M) hws (MQ.refl _ _) fun b o hb => by
            have := hI.mem b o hb
            rw [hws.block b (by have := (Array.getElem?_eq_some_iff.1 this).1; simp only [QN]; omega)]; exact this
        · cases hg
          exact ⟨Q, w', M', ρ, cv, tF.trans (Tr.own hle hws hmq hn) (fun _ h => h) (fun _ h => h), hF.ext hle hws hmq hmem, hst, .imm _ _ hr⟩
      split at h
      · rename_i r horc
        injection h with h
        obtain ⟨h1, h2⟩ := hC.orc f ivs _ horc
        obtain ⟨e, w', fr, ⟨cv, rfl, hws, M', hle, hmq, hmem, hr⟩, hcomes, hfn, hleave⟩ := h2 (memOf w M ρ ids) w vs hF.mem hvi (c :: cs)
        refine ⟨h1, ?_⟩
        cases ef with
        | val v ups => exact back r v ups w' M' cv h hle hws hmq hmem hr (Steps.trans hcomes (.one (step_leave_returned hleave)))
        | wr => unfold give at h; split at h <;> cases h
        | pan => unfold give at h; split at h <;> cases h
      · rename_i et sz xs horc
        cases h
        obtain ⟨h1, h2⟩ := hC.orc f ivs _ horc
        obtain ⟨e, w', fr, ⟨cv, rfl, hws, M', cells, hle, hmq, hmem, hsz, hrow, hblk, hfit, hcell⟩, hcomes, hfn, hleave⟩ := h2 (memOf w M ρ ids) w vs hF.mem hvi (c :: cs)
        have hup : updL s.G (frz ids ++ [(id, .set (.row et sz (xs.map .imm) false))]) = upd (updL s.G (frz ids)) id (.row et sz (xs.map .imm) false) := by
          rw [updL_append]; rfl
        have hI1 := hF.ext hle hws hmq hmem
        have hv1 : Ev M' ρ (updL s.G (frz ids)) M' (upd ρ id (some cv)) (upd (updL s.G (frz ids)) id (.row et sz (xs.map .imm) false)) := Ev.new hid
        have hrow' : w'.ownsRow 0 et sz cv (xs.map AV.imm).length cells := by rw [List.length_map]; exact hrow
        refine ⟨h1, Q, w', M', upd ρ id (some cv), cv, ?_, ?_, Steps.trans hcomes (.one (step_leave_returned hleave)), ?_⟩
        · rw [hup]
          refine (tF.trans (Tr.own (N := fun o => o = id ∨ s.nx ≤ o) hle hws hmq hn) (fun _ h => h) (fun _ h => h)).trans (N2 := fun o => o = id) ⟨fun _ h => h, hv1, WS.refl _ _, MQ.refl _ _, fun o h e => by simp [upd, h, e]⟩ (fun _ h => h) (fun _ h => .inl h)
        · rw [hup]
          refine hI1.add hlt hid ?_ (fun b hb => ⟨(hblk b hb).1, hn b (hblk b hb).2, fun o v hl hv hb' => ?_⟩)
          · unfold ObjOK
            simp only [upd, if_true]
            refine ⟨hsz, cv, cells, rfl, hrow', ⟨fun x hx => ?_, fun i x j y hx hy => ?_⟩, fun h => by cases h⟩
            · obtain ⟨z, hz, rfl⟩ := List.mem_map.1 hx
              exact hfit z hz
            · rw [List.getElem?_map, Option.map_eq_some_iff] at hx
              obtain ⟨z, hz, rfl⟩ := hx
              obtain ⟨u, rfl, hu⟩ := imm_get (l := z.cells) (by rw [← imm_cells z]; exact hy)
              exact .imm _ _ (hcell i z j u hz hu)
          · have h3 := hF.lt hl hv hb'
            have h4 := (hblk b hb).2
            omega
        · rw [hup]
          rcases hrow.2 with ⟨rfl, h1⟩ | ⟨g, cap, cur, rfl, _⟩
          · exact .row id _ none 0 0 (by simp [upd]) fun et' sz' xs' fr' e => by
              simp only [upd, if_true, Obj.row.injEq] at e
              obtain ⟨rfl, rfl, rfl, rfl⟩ := e
              exact ⟨by simp, fun _ => by simp [upd]⟩
          · exact .row id _ _ _ _ (by simp [upd]) fun et' sz' xs' fr' e => by
              simp only [upd, if_true, Obj.row.injEq] at e
              obtain ⟨rfl, rfl, rfl, rfl⟩ := e
              exact ⟨by simp, fun _ => by simp [upd]⟩
      · split at h
        · rename_i v G2 n2 pk2 hcall
          split at h
          · rename_i r is hpeek
            injection h with h
            obtain ⟨h1, h2⟩ := hL _ _ _ _ _ _ _ hcall
            obtain ⟨Q', w', M', ρ', t, i', n', p', e'⟩ := h2 (QN w) w (memOf w M ρ ids) (fun _ => none) vs .normal (c :: cs) (Inv.empty hF.mem) (VL_imms hvi) (hpk _)
            obtain ⟨cv, st, hcv⟩ := CallEnd.ret e' (p'.no_of rfl rfl)
            have hr := peek_VI i' _ _ _ _ _ hpeek (fun o h => h) hcv
            have hdat2 := peek_live _ _ _ _ hpeek
            refine ⟨h1, ?_⟩
            have hle : (memOf w M ρ ids).le (memOf w' M' ρ' is) := Mem.le_trans t.ev.mem (memOf_le _ _ _ _)
            have hmq : MQ (QN w) (memOf w M ρ ids) (memOf w' M' ρ' is) := t.mq.trans ((MQ.memOf i' hdat2).sub t.sub)
            cases ef with
            | val v' ups => exact back r v' ups w' _ cv h hle t.ws hmq (i'.frz hdat2).mem hr st
            | wr => unfold give at h; split at h <;> cases h
            | pan => unfold give at h; split at h <;> cases h
          · cases h
        · rename_i v G2 n2 pk2 hcall
          split at h
          · rename_i hsc
            cases h
            obtain ⟨h1, h2⟩ := hL _ _ _ _ _ _ _ hcall
            obtain ⟨Q', w', M', ρ', t, i', n', p', e'⟩ := h2 (QN w) w (memOf w M ρ ids) (fun _ => none) vs .normal (c :: cs) (Inv.empty hF.mem) (VL_imms hvi) (hpk _)
            obtain ⟨x, st, hx⟩ := CallEnd.pan e' (p'.no_of rfl rfl)
            refine ⟨h1, rfl, Nat.le_refl _, Q, w', M, ρ, x, Tr.own (Mem.le_refl M) t.ws (MQ.refl _ _) hn, ?_, st, hx.any hsc M⟩
            exact hI.ext (Mem.le_refl M) t.ws (MQ.refl _ _) fun b o hb => by
              have := hI.mem b o hb
              rw [t.ws.block b (by have := (Array.getElem?_eq_some_iff.1 this).1; simp only [QN]; omega)]; exact this
          · cases h
        · cases h
end Go.Abs

/- The abstract interpreter: an operation where the machine stands. -/
namespace Go.Abs
variable {M M' M'' : Mem} {ρ ρ' ρ'' : Ref} {G G' G'' : Nat → Obj} {w w' w'' : World} {nx nx' : Nat} {Q Q' Q'' Q0 : Nat → Prop} {P : Program} {C : Cfg} {L : Low}
theorem VL_append {p : AV → Value → Prop} {l l' : List AV} {vs vs' : Array Value} (h : VL p l vs) (k : VL p l' vs') : VL p (l ++ l') (vs ++ vs') := by
  refine ⟨by simp [h.1, k.1], fun i x hx => ?_⟩
  rw [List.getElem?_append] at hx
  split at hx
  · rename_i hi
    have := h.2 i x hx
    have hlt : i < vs.size := by rw [← h.1]; exact hi
    simpa [at_, Array.getD_eq_getD_getElem?, Array.getElem?_append, hlt] using this
  · rename_i hi
    have := k.2 _ x hx
    have hlt : ¬ i < vs.size := by rw [← h.1]; exact hi
    simpa [at_, Array.getD_eq_getD_getElem?, Array.getElem?_append, hlt, h.1] using this
theorem fnOf_ok {g : AV} {f : Fn} {cap : List AV} {c : Value} (h : fnOf g = some (f, cap)) (hg : VA M ρ G g c) : ∃ vs, c = .func f #[] vs ∧ VL (VA M ρ G) cap vs := by
  unfold fnOf at h
  split at h
  · cases h
    have := hg.imm_inv
    cases this with | fn _ _ vs hl hx => exact ⟨vs, rfl, VL_imms ⟨hl, hx⟩⟩
  · cases h
    cases hg with | fn _ _ vs hl hx => exact ⟨vs, rfl, hl, hx⟩
  · cases h
theorem opA_val {id : Nat} {s : St} {o : Op} {ef : Ef} (hs : simple o = true) (h : opA C L id s o = some ef) : ∃ v ups, ef = .val v ups := by
  unfold opA at h
  cases o <;> simp only [simple, Bool.false_eq_true, reduceCtorEq] at hs h
  case call c =>
    obtain ⟨callee, args, ats⟩ := c
    cases callee with
    | builtin b =>
      simp only at h
      have hb : b ≠ .recover := fun e => by subst e; simp at hs
      unfold aBuiltin aAppend at h
      split at h
      all_goals first | exact absurd rfl hb | ((repeat' split at h) <;> first | (cases h <;> exact ⟨_, _, rfl⟩) | cases h)
    | _ => simp only [Bool.false_eq_true] at hs
  case makeMap t r => cases r <;> simp only [reduceCtorEq] at h; cases h; exact ⟨_, _, rfl⟩
  case slice t x lo hi mx => cases mx <;> simp only [reduceCtorEq] at h; unfold aSlice give at h; (repeat' split at h) <;> first | (cases h <;> exact ⟨_, _, rfl⟩) | cases h
  all_goals
    (try unfold aAlloc at h); (try unfold aBox at h); (try unfold aBuild at h); (try unfold aBuildSlice at h); (try unfold aMakeSlice at h); (try unfold aLoad at h); (try unfold aStore at h); (try unfold aNilCheck at h)
    (try unfold aConvert at h); (try unfold aMakeInterface at h); (try unfold aFieldAddr at h); (try unfold aIndexAddr at h); (try unfold aIndex at h); (try unfold lookA at h); (try unfold aMapUpdate at h); (try unfold aExtract at h)
    (try unfold aSlice at h); (try unfold aTypeAssert at h); (try unfold give at h); (try unfold aRange at h); (try unfold aNext at h); (try unfold aEntry at h)
    (repeat' split at h) <;> first | (cases h <;> exact ⟨_, _, rfl⟩) | cases h
def OpN (P : Program) (nt : Nat) (b : Frame) (cs : List Frame) (k : List Item) (ops : Array Oper) (i : Nat) (rest : List Nat) (o : Oper) (id : Nat) (Q0 Q : Nat → Prop) (w : World) (M : Mem) (ρ : Ref) (s : St) (a : Act) (v : AV) (s1 : St) : Prop :=
  ∃ c a1 Q' w' M' ρ', Tr (fun o => o = id ∨ s.nx ≤ o) Q w M ρ s.G Q' w' M' ρ' s1.G ∧ s.nx ≤ s1.nx ∧ s1.tmps = s.tmps ∧ SR nt Q0 Q' w' M' ρ' s1 a1 ∧ VA M' ρ' s1.G v c ∧ PkOK M b cs s1.pk ∧
    Steps P (lone (b.atR a (.inRegion ops (i :: rest) :: k)) (csM s.pk cs) w) (lone (b.atR (a1.put o.dst c) (.inRegion ops rest :: k)) (csM s1.pk cs) w')
def OpP (P : Program) (nt : Nat) (b : Frame) (cs : List Frame) (k : List Item) (ops : Array Oper) (i : Nat) (rest : List Nat) (id : Nat) (Q0 Q : Nat → Prop) (w : World) (M : Mem) (ρ : Ref) (s : St) (a : Act) (v : IV) (s1 : St) : Prop :=
  ∃ x a1 todo Q' w' M' ρ', Tr (fun o => o = id ∨ s.nx ≤ o) Q w M ρ s.G Q' w' M' ρ' s1.G ∧ s.nx ≤ s1.nx ∧ SR nt Q0 Q' w' M' ρ' s1 a1 ∧ VI M' v x ∧ PkOK M b cs s1.pk ∧
    Steps P (lone (b.atR a (.inRegion ops (i :: rest) :: k)) (csM s.pk cs) w) (lone { b.atR a1 todo with mode := .panicking [{ v := x, recovered := false }] } (csM s1.pk cs) w')
def OpRes (P : Program) (nt : Nat) (b : Frame) (cs : List Frame) (k : List Item) (ops : Array Oper) (i : Nat) (rest : List Nat) (o : Oper) (id : Nat) (Q0 Q : Nat → Prop) (w : World) (M : Mem) (ρ : Ref) (s : St) (a : Act) : Ef → Prop
  | .val v ups => OpN P nt b cs k ops i rest o id Q0 Q w M ρ s a v { s with G := updL s.G ups }
  | .wr v s1 => OpN P nt b cs k ops i rest o id Q0 Q w M ρ s a v s1
  | .pan v s1 => OpP P nt b cs k ops i rest id Q0 Q w M ρ s a v s1
theorem SR.turn {nt : Nat} {s : St} {a : Act} {N : Nat → Prop} {G1 : Nat → Obj} {n1 : Nat} (h : SR nt Q0 Q w M ρ s a) (t : Tr N Q w M ρ s.G Q' w' M' ρ' G1) (hi : Inv Q' w' M' ρ' G1 n1) : SR nt Q0 Q' w' M' ρ' { s with G := G1, nx := n1 } a :=
  ⟨hi, h.tmps.mono t.ev, h.size, fun b hb => h.sub b (t.sub b hb), h.dfr.mono t⟩
section
variable {nt : Nat} {b : Frame} {cs : List Frame} {k : List Item} {ops : Array Oper} {i : Nat} {rest : List Nat} {o : Oper} {id : Nat} {s : St} {a : Act}
theorem opRes_of_call {ef : Ef} {m : List Frame → Machine} (ho : ops[i]? = some o) (hS : SR nt Q0 Q w M ρ s a) (hpk : PkOK M b cs s.pk)
    (hstep : step P (lone (b.atR a (.inRegion ops (i :: rest) :: k)) (csM s.pk cs) w) = .next (m (b.atR a (.inRegion ops (i :: rest) :: k) :: csM s.pk cs)))
    (h : CallRes P id s m Q w M ρ (b.atR a (.inRegion ops (i :: rest) :: k)) (csM s.pk cs) ef) : OpRes P nt b cs k ops i rest o id Q0 Q w M ρ s a ef := by
  cases ef with
  | val v ups =>
    obtain ⟨Q', w', M', ρ', cv, t, hi, hst, hv⟩ := h
    rw [finR ho] at hst
    exact ⟨cv, a, Q', w', M', ρ', t, Nat.le_refl _, rfl, hS.turn t hi, hv, hpk, .head hstep hst⟩
  | wr v s1 =>
    obtain ⟨e, hn, Q', w', M', ρ', cv, t, hi, hst, hv⟩ := h
    rw [finR ho] at hst
    have hS1 := hS.turn t hi
    rw [← e] at hS1
    have epk : s1.pk = s.pk := by rw [e]
    refine ⟨cv, a, Q', w', M', ρ', t, hn, by rw [e], hS1, hv, by rw [epk]; exact hpk, by rw [epk]; exact .head hstep hst⟩
  | pan v s1 =>
    obtain ⟨e, hn, Q', w', M', ρ', x, t, hi, hst, hv⟩ := h
    rw [Frame.raise_atR] at hst
    have hS1 := hS.turn t hi
    rw [← e] at hS1
    have epk : s1.pk = s.pk := by rw [e]
    exact ⟨x, a, _, Q', w', M', ρ', t, hn, hS1, hv, by rw [epk]; exact hpk, by rw [epk]; exact .head hstep hst⟩
theorem aCall_ok (hC : CfgOK C) (hL : CallOK C.P L) (hR : RoundOK C.P L) {g : AV} {args : List AV} {ef : Ef} (h : aCall C L id s g args = some ef) {gc : Value} {vs : Array Value} {c : Frame} (hI : Inv Q w M ρ s.G s.nx) (hid : ρ id = none) (hlt : id < s.nx)
    (hg : VA M ρ s.G g gc) (hv : VL (VA M ρ s.G) args vs) : ∃ fn cap, gc = .func fn #[] cap ∧ ∃ m : List Frame → Machine, CallRes C.P id s m Q w M ρ c cs ef ∧
      ((∃ f args', (invoke (.fn fn cap) vs).run C.P w = .ok (.enter f args') w ∧ m = fun cs => lone (Frame.enter C.P f args' .normal) cs w) ∨
       (∃ l f tmps x y, (invoke (.fn fn cap) vs).run C.P w = .ok (.round l f tmps x y) w ∧ m = fun cs => lone (Frame.round l f tmps x y .normal) cs w)) := by
  unfold aCall at h
  split at h
  · rename_i q
    have : ∃ l, gc = .func (.yield l) #[] #[] ∧ ρ q = some (.func (.yield l) #[] #[]) := by
      cases hg with | yld _ l hq => exact ⟨l, rfl, hq⟩
    obtain ⟨l, rfl, hq⟩ := this
    split at h
    · rename_i v G2 n2 pk2 hcall
      cases h
      obtain ⟨f, tmps, x, y, h1, h2⟩ := hR _ _ _ _ _ _ hcall Q w M ρ vs l hI hv hq
      obtain ⟨Q', w', M', ρ', t, i', n', cv, st, hcv⟩ := h2 c cs
      exact ⟨_, _, rfl, _, ⟨rfl, n', Q', w', M', ρ', cv, t.weak (fun _ => .inr), i', st, hcv⟩, .inr ⟨l, f, tmps, x, y, h1, rfl⟩⟩
    · rename_i v G2 n2 pk2 hcall
      cases h
      obtain ⟨f, tmps, x, y, h1, h2⟩ := hR _ _ _ _ _ _ hcall Q w M ρ vs l hI hv hq
      obtain ⟨Q', w', M', ρ', t, i', n', x', st, hx⟩ := h2 c cs
      exact ⟨_, _, rfl, _, ⟨rfl, n', Q', w', M', ρ', x', t.weak (fun _ => .inr), i', st, hx⟩, .inr ⟨l, f, tmps, x, y, h1, rfl⟩⟩
    · cases h
  · split at h
    · rename_i kf cap hf
      obtain ⟨cv, rfl, hcap⟩ := fnOf_ok hf hg
      obtain ⟨h1, h2⟩ := callA_ok hC hL h (vs := vs ++ cv) (c := c) (cs := cs) hI hid hlt (VL_append hv hcap)
      exact ⟨_, _, rfl, _, h2, .inl ⟨kf, vs ++ cv, by simp [invoke, run_callFunc hC h1], rfl⟩⟩
    · cases h
theorem op_ok (hC : CfgOK C) (hL : CallOK C.P L) (hR : RoundOK C.P L) {ef : Ef} (h : opA C L id s o.op = some ef) (ho : ops[i]? = some o) (hw : Region.wanted o (yielded ops a.tmps) = true) (hS : SR nt Q0 Q w M ρ s a) (hpk : PkOK M b cs s.pk)
    (hid : ρ id = none) (hlt : id < s.nx) : OpRes C.P nt b cs k ops i rest o id Q0 Q w M ρ s a ef := by
  by_cases hs : simple o.op = true
  · obtain ⟨v, ups, rfl⟩ := opA_val hs h
    obtain ⟨nxt, c, w', M', ρ', hr, hn, he, hi, hv, hws, hmq, hb⟩ := opA_simple (w := w) hs h hS.inv hid hlt hS.tmps
    have t : Tr (fun o => o = id ∨ s.nx ≤ o) Q w M ρ s.G Q w' M' ρ' (updL s.G ups) := ⟨fun _ h => h, he, hws, hmq, fun o ho hr => hb o (fun e => ho (.inl e)) hr⟩
    have hd : ∀ c, o.op ≠ .defer c := fun c e => by rw [e] at hs; simp [simple] at hs
    exact ⟨c, a, Q, w', M', ρ', t, Nat.le_refl _, rfl, hS.turn t hi, hv, hpk, .one (step_value ho hw hd hr hn)⟩
  · obtain ⟨dst, op, ty, pos, aft, gd⟩ := o
    simp only at hs h
    have trefl : Tr (fun o => o = id ∨ s.nx ≤ o) Q w M ρ s.G Q w M ρ s.G := Tr.refl _ _ _ _ _ _
    unfold opA at h
    cases op with
    | panic x =>
      simp only at h
      split at h
      · rename_i t v hx
        cases h
        have hv := hS.tmps.ev x
        rw [hx] at hv
        have hv := hv.imm_inv
        have hcv : ∃ cv, evV a.tmps x = .iface t cv := by
          generalize evV a.tmps x = z at hv
          cases hv; exact ⟨_, rfl⟩
        obtain ⟨cv, hcv⟩ := hcv
        refine ⟨_, a, _, Q, w, M, ρ, trefl, Nat.le_refl _, hS, hv, hpk, .one (step_panic ho hw (by simp) ?_)⟩
        simp [execOp, hcv, Instr.panic, goPanic]
      · cases h
    | defer c =>
      simp only at h
      split at h
      · cases h
      · rename_i f hcal hnr
        split at h
        rotate_left
        · cases h
        rename_i fc hfn
        cases h
        have hro : b.roundOf = none := by
          cases e : s.pk with
          | no => rw [e] at hpk; exact hpk.2
          | rnd => exact absurd e hnr
          | dfr m r => rw [e] at hpk; cases m with
            | none => exact hpk.2.1
            | some v => exact hpk.2.1
        obtain ⟨fk, cap⟩ := fc
        obtain ⟨cv, hcv, _⟩ := fnOf_ok hfn (hS.tmps.ev f)
        have hex : (execOp (evV a.tmps) ⟨dst, .defer c, ty, pos, aft, gd⟩).run C.P w = .ok (.defer { target := .fn fk cv, args := c.args.map (evV a.tmps) }) w := by
          simp [execOp, resolve, hcal, hcv, Deferred.ofValue]
        refine ⟨Go.undef, { a with defers := { target := .fn fk cv, args := c.args.map (evV a.tmps) } :: a.defers }, Q, w, M, ρ, trefl, Nat.le_refl _, rfl, ⟨hS.inv, hS.tmps, hS.size, hS.sub, ?_⟩, .undef _, hpk, .one (step_deferOp hro ho hw hex)⟩
        exact .cons fk cv rfl (by rw [← hcv]; exact hS.tmps.ev f) (vl_ok hS.tmps c.args) hS.dfr
      · cases h
    | call c =>
      obtain ⟨callee, args, ats⟩ := c
      cases callee with
      | builtin bb =>
        have hbb : bb = .recover := by cases bb <;> simp [simple] at hs <;> rfl
        subst hbb
        have hex : (execOp (evV a.tmps) ⟨dst, .call ⟨.builtin .recover, args, ats⟩, ty, pos, aft, gd⟩).run C.P w = .ok .recover w := by
          simp [execOp, resolve, invoke, builtin]
        simp only at h
        unfold aBuiltin at h
        simp only at h
        split at h
        · rename_i v hp
          cases h
          rw [hp] at hpk
          obtain ⟨h1, h2, c, rest', x, rfl, h4, h5⟩ := hpk
          refine ⟨x, a, Q, w, M, ρ, trefl, Nat.le_refl _, rfl, ⟨hS.inv, hS.tmps, hS.size, hS.sub, hS.dfr⟩, .imm _ _ h5, ⟨h1, h2, c, rest', x, rfl, h4, h5⟩, .one ?_⟩
          have hst := step_recoverOp (P := C.P) (w := w) (cr := rest') (k := k) (rest := rest) h2 h1 h4 ho hw (by simp) hex
          have e1 : csM s.pk (c :: rest') = c :: rest' := by rw [hp]; rfl
          have e2 : csM (.dfr (some v) true) (c :: rest') = { c with mode := .panicking [{ v := x, recovered := true }] } :: rest' := by simp [csM, h4]
          rw [e1, e2]
          exact hst
        · rename_i r hp
          cases h
          have hpk0 := hpk
          rw [hp] at hpk
          obtain ⟨h1, h2, c, rest', rfl, h4⟩ := hpk
          refine ⟨.nilIface, a, Q, w, M, ρ, trefl, Nat.le_refl _, rfl, ⟨hS.inv, hS.tmps, hS.size, hS.sub, hS.dfr⟩, .imm _ _ .niliface, hpk0, .one ?_⟩
          have e1 : csM s.pk (c :: rest') = c :: rest' := by rw [hp]; rfl
          rw [e1]
          exact step_recoverNil h2 h1 h4 ho hw (by simp) hex
        · cases h
      | value f =>
        simp only at h
        have hvs := vl_ok hS.tmps args
        obtain ⟨fn, cap, hgc, m, hres, hinv⟩ := aCall_ok hC hL hR (c := b.atR a (.inRegion ops (i :: rest) :: k)) (cs := csM s.pk cs) h hS.inv hid hlt (hS.tmps.ev f) hvs
        have hex : ∀ nxt, (invoke (.fn fn cap) (args.map (evV a.tmps))).run C.P w = .ok nxt w → (execOp (evV a.tmps) ⟨dst, .call ⟨.value f, args, ats⟩, ty, pos, aft, gd⟩).run C.P w = .ok nxt w := by
          intro nxt hn
          simp [execOp, resolve, hgc, Deferred.ofValue, hn]
        refine opRes_of_call ho hS hpk ?_ hres
        rcases hinv with ⟨f', args', h1, rfl⟩ | ⟨l, f', tmps, x, y, h1, rfl⟩
        · exact step_enter ho hw (by simp) (hex _ h1)
        · exact step_round ho hw (by simp) (hex _ h1)
      | _ => simp at h
    | _ => simp [simple] at hs
end
end Go.Abs

/- The abstract interpreter: a region's operations, one behind the other. -/
namespace Go.Abs
variable {M M' M'' : Mem} {ρ ρ' ρ'' : Ref} {G G' G'' : Nat → Obj} {w w' w'' : World} {nx nx' : Nat} {Q Q' Q'' Q0 : Nat → Prop} {P : Program} {C : Cfg} {L : Low}
variable {nt : Nat} {b : Frame} {cs : List Frame} {k : List Item} {ops : Array Oper} {i : Nat} {rest : List Nat} {o : Oper} {id : Nat} {s s' : St} {a : Act}
theorem getD_some {arr : Array Value} {d : Nat} {v : Value} (h : arr.getD d Go.undef = v) (hv : v ≠ Go.undef) : arr[d]? = some v := by
  rw [Array.getD_eq_getD_getElem?] at h
  cases e : arr[d]? with
  | none => rw [e] at h; exact absurd h.symm hv
  | some u => rw [e] at h; simpa using h
theorem wantA_ok {t : Bool} (h : wantA ops s.tmps o = some t) (hT : TR M ρ G s.tmps a.tmps) : Region.wanted o (yielded ops a.tmps) = t := by
  unfold wantA at h
  unfold Region.wanted
  cases hg : o.guard with
  | none => rw [hg] at h; simp at h; simp [h]
  | some p =>
    obtain ⟨j, want⟩ := p
    rw [hg] at h
    simp only at h ⊢
    unfold yielded
    cases hd : (ops[j]?).bind (·.dst) with
    | none => rw [hd] at h; simp at h; subst h; rfl
    | some d =>
      rw [hd] at h
      simp only [Option.bind_some] at h ⊢
      have hv := hT d
      split at h
      · rename_i bb hb
        rw [hb] at hv
        have := hv.bool_inv
        rw [getD_some this (by simp [Go.undef])]
        simp only [Option.some.injEq] at h
        subst h
        simp only
        cases bb <;> cases want <;> rfl
      · rename_i hb
        rw [hb] at hv
        have hv := hv.imm_inv
        simp only [Option.some.injEq] at h
        subst h
        generalize hz : a.tmps.getD d Go.undef = z at hv
        cases hv with
        | tup _ vs hl _ =>
          have hne : ∀ bb, a.tmps[d]? ≠ some (.bool bb) := fun bb e => by
            rw [Array.getD_eq_getD_getElem?, e] at hz; simp at hz
          cases e : a.tmps[d]? with
          | none => rfl
          | some z' =>
            cases z' with
            | bool bb => exact absurd e (hne bb)
            | _ => rfl
      · cases h
theorem SR.put {dst : Option Nat} {v : AV} {c : Value} (h : SR nt Q0 Q w M ρ s a) (hp : put nt s dst v = some s') (hv : VA M ρ s.G v c) :
    SR nt Q0 Q w M ρ s' (a.put dst c) ∧ s'.G = s.G ∧ s'.nx = s.nx ∧ s'.pk = s.pk ∧ s'.defers = s.defers := by
  unfold Go.Abs.put at hp
  cases dst with
  | none => cases hp; exact ⟨h, rfl, rfl, rfl, rfl⟩
  | some d =>
    simp only at hp
    split at hp
    · rename_i hd
      cases hp
      refine ⟨⟨h.inv, fun t => ?_, by simpa [Act.put] using h.size, h.sub, h.dfr⟩, rfl, rfl, rfl, rfl⟩
      have hlt : d < a.tmps.size := by rw [h.size]; exact hd
      simp only [upd, Act.put]
      by_cases ht : t = d
      · subst ht
        simp [Array.getD_eq_getD_getElem?, hlt]
        exact hv
      · rw [if_neg ht]
        have := h.tmps t
        rw [Array.getD_eq_getD_getElem?] at this ⊢
        rw [Array.getElem?_setIfInBounds_ne (Ne.symm ht)]
        exact this
    · cases hp
structure Goes (nt : Nat) (b : Frame) (cs : List Frame) (Q0 : Nat → Prop) (N : Nat → Prop) (Q : Nat → Prop) (w : World) (M : Mem) (ρ : Ref) (G0 : Nat → Obj) (nx0 : Nat) (s' : St) (a' : Act) (Q' : Nat → Prop) (w' : World) (M' : Mem) (ρ' : Ref) : Prop where
  tr : Tr N Q w M ρ G0 Q' w' M' ρ' s'.G
  nx : nx0 ≤ s'.nx
  sr : SR nt Q0 Q' w' M' ρ' s' a'
  pk : PkOK M' b cs s'.pk
theorem Goes.after {N N1 N2 : Nat → Prop} {G1 : Nat → Obj} {n0 n1 : Nat} {a' : Act} (t : Tr N1 Q w M ρ G Q' w' M' ρ' G1) (hn : n0 ≤ n1) (h : Goes nt b cs Q0 N2 Q' w' M' ρ' G1 n1 s' a' Q'' w'' M'' ρ'') (h1 : ∀ o, N1 o → N o) (h2 : ∀ o, N2 o → N o) :
    Goes nt b cs Q0 N Q w M ρ G n0 s' a' Q'' w'' M'' ρ'' := ⟨t.trans h.tr h1 h2, Nat.le_trans hn h.nx, h.sr, h.pk⟩
def LineEnd (P : Program) (nt : Nat) (b : Frame) (cs : List Frame) (k : List Item) (Q0 N Q : Nat → Prop) (w : World) (M : Mem) (ρ : Ref) (G0 : Nat → Obj) (nx0 : Nat) (m : Machine) : Out → Prop
  | .norm s' => ∃ a' Q' w' M' ρ', Goes nt b cs Q0 N Q w M ρ G0 nx0 s' a' Q' w' M' ρ' ∧ Steps P m (lone (b.atR a' k) (csM s'.pk cs) w')
  | .pan v s' => ∃ a' Q' w' M' ρ' todo x, Goes nt b cs Q0 N Q w M ρ G0 nx0 s' a' Q' w' M' ρ' ∧ VI M' v x ∧ Steps P m (lone { b.atR a' todo with mode := .panicking [{ v := x, recovered := false }] } (csM s'.pk cs) w')
  | _ => False
theorem LineEnd.after {N N1 N2 : Nat → Prop} {G1 : Nat → Obj} {n0 n1 : Nat} {m m1 : Machine} {out : Out} (t : Tr N1 Q w M ρ G Q' w' M' ρ' G1) (hn : n0 ≤ n1) (hs : Steps P m m1) (h : LineEnd P nt b cs k Q0 N2 Q' w' M' ρ' G1 n1 m1 out) (h1 : ∀ o, N1 o → N o) (h2 : ∀ o, N2 o → N o) :
    LineEnd P nt b cs k Q0 N Q w M ρ G n0 m out := by
  cases out with
  | norm s' => obtain ⟨a', Q', w', M', ρ', g, st⟩ := h; exact ⟨a', Q', w', M', ρ', g.after t hn h1 h2, hs.trans st⟩
  | pan v s' => obtain ⟨a', Q', w', M', ρ', todo, x, g, hx, st⟩ := h; exact ⟨a', Q', w', M', ρ', todo, x, g.after t hn h1 h2, hx, hs.trans st⟩
  | exit => exact h
  | ret => exact h
theorem stepA_ok (hC : CfgOK C) (hL : CallOK C.P L) (hR : RoundOK C.P L) {out : Out} (h : stepA C L nt ops id o s = some out) (ho : ops[i]? = some o) (hS : SR nt Q0 Q w M ρ s a) (hpk : PkOK M b cs s.pk) (hid : ρ id = none) (hlt : id < s.nx) :
    LineEnd C.P nt b cs (.inRegion ops rest :: k) Q0 (fun o => o = id ∨ s.nx ≤ o) Q w M ρ s.G s.nx (lone (b.atR a (.inRegion ops (i :: rest) :: k)) (csM s.pk cs) w) out := by
  unfold stepA at h
  have fin : ∀ v s1 s', OpN C.P nt b cs k ops i rest o id Q0 Q w M ρ s a v s1 → Go.Abs.put nt s1 o.dst v = some s' →
      LineEnd C.P nt b cs (.inRegion ops rest :: k) Q0 (fun o => o = id ∨ s.nx ≤ o) Q w M ρ s.G s.nx (lone (b.atR a (.inRegion ops (i :: rest) :: k)) (csM s.pk cs) w) (.norm s') := by
    intro v s1 s' ⟨c, a1, Q', w', M', ρ', t, hn, ht, hS1, hv, hpk1, hst⟩ hp
    obtain ⟨hS2, e1, e2, e3, e4⟩ := hS1.put hp hv
    refine ⟨_, Q', w', M', ρ', ⟨by rw [e1]; exact t, by rw [e2]; exact hn, hS2, by rw [e3]; exact hpk1.mono t.ev.mem⟩, by rw [e3]; exact hst⟩
  split at h
  · rename_i hw
    have hw := wantA_ok hw hS.tmps
    split at h
    · rename_i v ups hop
      have := op_ok (k := k) (rest := rest) hC hL hR hop ho hw hS hpk hid hlt
      split at h
      · rename_i s' hp; cases h; exact fin v _ s' this hp
      · cases h
    · rename_i v s1 hop
      have := op_ok (k := k) (rest := rest) hC hL hR hop ho hw hS hpk hid hlt
      split at h
      · rename_i s' hp; cases h; exact fin v _ s' this hp
      · cases h
    · rename_i v s1 hop
      cases h
      obtain ⟨x, a1, todo, Q', w', M', ρ', t, hn, hS1, hx, hpk1, hst⟩ := op_ok (k := k) (rest := rest) hC hL hR hop ho hw hS hpk hid hlt
      exact ⟨a1, Q', w', M', ρ', todo, x, ⟨t, hn, hS1, hpk1.mono t.ev.mem⟩, hx, hst⟩
    · cases h
  · rename_i hw
    have hw := wantA_ok hw hS.tmps
    split at h
    · rename_i s' hp
      cases h
      refine fin (.imm (.tup [])) s s' ⟨Go.undef, a, Q, w, M, ρ, Tr.refl _ _ _ _ _ _, Nat.le_refl _, rfl, hS, ?_, hpk, .one ?_⟩ hp
      · exact .imm _ _ (.tup [] #[] rfl fun i x hx => by simp at hx)
      · have := stepR_op_skip (P := C.P) (b := b) (a := a) (k := k) (cs := csM s.pk cs) (w := w) (ops := ops) (i := i) (rest := rest) (by simp [ho, hw])
        rw [this, ho]; rfl
    · cases h
  · cases h
theorem runA_ok (hC : CfgOK C) (hL : CallOK C.P L) (hR : RoundOK C.P L) {base : Nat} : ∀ (l : List Nat) {s : St} {a : Act} {Q : Nat → Prop} {w : World} {M : Mem} {ρ : Ref} {out : Out}, runA C L nt ops base l s = some out → l.Nodup → (∀ i ∈ l, i < ops.size ∧ ρ (base + i) = none) →
    base + ops.size ≤ s.nx → SR nt Q0 Q w M ρ s a → PkOK M b cs s.pk → LineEnd C.P nt b cs k Q0 (base ≤ ·) Q w M ρ s.G s.nx (lone (b.atR a (.inRegion ops l :: k)) (csM s.pk cs) w) out
  | [], s, a, Q, w, M, ρ, out, h, hnd, hl, hn, hS, hpk => by
    cases h
    exact ⟨a, Q, w, M, ρ, ⟨Tr.refl _ _ _ _ _ _, Nat.le_refl _, hS, hpk⟩, .one stepR_region_end⟩
  | i :: r, s, a, Q, w, M, ρ, out, h, hnd, hl, hn, hS, hpk => by
    have hi := hl i (by simp)
    have ho : ops[i]? = some ops[i] := Array.getElem?_eq_getElem hi.1
    simp only [runA, ho] at h
    split at h
    · rename_i s1 h1
      obtain ⟨a1, Q1, w1, M1, ρ1, g, st⟩ := stepA_ok (k := k) (rest := r) hC hL hR h1 ho hS hpk hi.2 (by omega)
      have hnd' := List.nodup_cons.1 hnd
      have := runA_ok hC hL hR r h hnd'.2 (fun j hj => ⟨(hl j (by simp [hj])).1, g.tr.born _ (fun e => by
        rcases e with e | e
        · have : j = i := by omega
          subst this; exact hnd'.1 hj
        · have := (hl j (by simp [hj])).1; omega) (hl j (by simp [hj])).2⟩) (Nat.le_trans hn g.nx) g.sr g.pk
      exact LineEnd.after g.tr g.nx st this (fun o e => by rcases e with e | e <;> omega) (fun _ h => h)
    · rename_i x hx
      have := stepA_ok (k := k) (rest := r) hC hL hR h ho hS hpk hi.2 (by omega)
      cases out with
      | norm s1 => exact absurd h (hx s1)
      | pan v s1 =>
        obtain ⟨a', Q', w', M', ρ', todo, x, g, hx, st⟩ := this
        exact ⟨a', Q', w', M', ρ', todo, x, ⟨g.tr.weak (fun o e => by rcases e with e | e <;> omega), g.nx, g.sr, g.pk⟩, hx, st⟩
      | exit => exact this
      | ret => exact this
end Go.Abs
