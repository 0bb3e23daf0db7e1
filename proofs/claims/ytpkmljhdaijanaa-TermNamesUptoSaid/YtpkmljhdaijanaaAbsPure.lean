/- The abstract interpreter: operations on values alone. -/
import Derived.Test.YtpkmljhdaijanaaAbsPeek
import Derived.Laws.BytesString
namespace Go.Abs

variable {id : Nat}
variable {M M' : Mem} {ρ ρ' : Ref} {G G' : Nat → Obj} {w w' : World} {nx : Nat} {Q : Nat → Prop} {P : Program} {C : Cfg}

theorem intOp_ok {op : BinOp} {k : IntKind} {a b : Int} {x : IV} {t : TypeId} (h : intOp op k a b = some x) : ∃ u, (binOp op t (.int k a) (.int k b)).run P w = .ok u w ∧ VI M x u := by
  cases op <;> simp only [intOp, reduceCtorEq, Option.some.injEq] at h
  case quo => split at h
              · cases h
              · rename_i hb; cases h; exact ⟨_, by simp [binOp, Op.intDiv, hb], .int _ _⟩
  case rem => split at h
              · cases h
              · rename_i hb; cases h; exact ⟨_, by simp [binOp, Op.intDiv, hb], .int _ _⟩
  all_goals
    subst h
    first
    | exact ⟨_, by simp [binOp, Op.intArith], .int _ _⟩
    | exact ⟨_, by simp [binOp, Op.intCmp], .bool _⟩

theorem strOp_ok {op : BinOp} {a b : ByteArray} {x : IV} {t : TypeId} (h : strOp op a b = some x) : ∃ u, (binOp op t (.string a) (.string b)).run P w = .ok u w ∧ VI M x u := by
  cases op <;> simp only [strOp, reduceCtorEq, Option.some.injEq] at h
  case add =>
    split at h
    · rename_i hb
      cases h
      have hb' : ¬ (9223372036854775807 < (a.size : Int) + (b.size : Int)) := by omega
      exact ⟨_, by simp [binOp, Op.stringOp, hb'], .str _⟩
    · cases h
  all_goals
    subst h
    exact ⟨_, by simp [binOp, Op.stringOp], .bool _⟩

theorem equal_step (t : TypeId) (x y : Value) : Op.equal t x y = Op.equalIn (9999 + 1) t x y := rfl
theorem run_equal_bool {t : TypeId} {a b : Bool} (h : P.underlying t = some .bool) : (Op.equal t (.bool a) (.bool b)).run P w = .ok (a == b) w := by
  rw [equal_step, Op.equalIn]; simp only [Sem.run_bind, run_underlying' h, Result.andThen_ok, Sem.run_pure]
theorem run_equal_nilp {t e : TypeId} {b : Option _} (h : P.underlying t = some (.pointer e)) : (Op.equal t (.pointer none) (.pointer b)).run P w = .ok b.isNone w := by
  rw [equal_step, Op.equalIn]; simp only [Sem.run_bind, run_underlying' h, Result.andThen_ok, Sem.run_pure]
theorem run_equal_pnil {t e : TypeId} {a : Addr} (h : P.underlying t = some (.pointer e)) : (Op.equal t (.pointer (some a)) (.pointer none)).run P w = .ok false w := by
  rw [equal_step, Op.equalIn]; simp only [Sem.run_bind, run_underlying' h, Result.andThen_ok, Sem.run_pure]
theorem run_equal_ifnn {t : TypeId} {ms} (h : P.underlying t = some (.interface ms)) : (Op.equal t .nilIface .nilIface).run P w = .ok true w := by
  rw [equal_step, Op.equalIn]; simp only [Sem.run_bind, run_underlying' h, Result.andThen_ok, Sem.run_pure]
theorem run_equal_ifni {t : TypeId} {ms u v} (h : P.underlying t = some (.interface ms)) : (Op.equal t .nilIface (.iface u v)).run P w = .ok false w := by
  rw [equal_step, Op.equalIn]; simp only [Sem.run_bind, run_underlying' h, Result.andThen_ok, Sem.run_pure]
theorem run_equal_ifin {t : TypeId} {ms u v} (h : P.underlying t = some (.interface ms)) : (Op.equal t (.iface u v) .nilIface).run P w = .ok false w := by
  rw [equal_step, Op.equalIn]; simp only [Sem.run_bind, run_underlying' h, Result.andThen_ok, Sem.run_pure]

theorem eqAV_ok {t : TypeId} {x y : AV} {cx cy : Value} {b : Bool} {ox oy : Operand} (h : eqAV C (isNilC ox || isNilC oy) t x y = some b) (hx : VA M ρ G x cx) (hy : VA M ρ G y cy) (op : BinOp) :
    (Op.equal t cx cy).run C.P w = .ok b w ∧ (eqGuard op t ox oy cx cy).run C.P w = .ok () w ∧ (∀ k n, cx ≠ .int k n) ∧ (∀ s, cx ≠ .string s) ∧ (∀ k n, cx ≠ .float k n) ∧ (∀ k n m, cx ≠ .complex k n m) := by
  unfold eqAV at h
  split at h
  · rename_i i hi
    obtain ⟨info, zv, d, h1, h2, h3, h4, h5, h6, h7, h8⟩ := tyOf_some hi
    rw [h5] at h
    unfold eqOp at h
    split at h
    · rename_i hd
      cases d <;> simp only [tyd, reduceCtorEq] at hd
      split at h
      · cases h
        obtain rfl := hx.bool_inv
        obtain rfl := hy.bool_inv
        refine ⟨by simp [run_equal_bool h2], by cases op <;> rfl, by simp, by simp, by simp, by simp⟩
      · cases h
    · rename_i hd
      cases d <;> simp only [tyd, reduceCtorEq] at hd
      have hptr : ∀ z : AV, ∀ cz, VA M ρ G z cz → (z = .imm .nilp → cz = .pointer none) ∧ ((∃ o off, z = .ptr o off) ∨ (∃ cs off, z = .imm (.fptr cs off)) → ∃ a, cz = .pointer (some a)) := by
        intro z cz hz
        refine ⟨fun e => by subst e; have := hz.imm_inv; cases this; rfl, fun e => ?_⟩
        rcases e with ⟨o, off, rfl⟩ | ⟨cs, off, rfl⟩
        · cases hz; exact ⟨_, rfl⟩
        · have := hz.imm_inv; cases this; exact ⟨_, rfl⟩
      split at h
      · cases h
        obtain rfl := (hptr _ _ hx).1 rfl
        obtain rfl := (hptr _ _ hy).1 rfl
        refine ⟨by first | exact run_equal_nilp h2 | exact run_equal_pnil h2, by cases op <;> rfl, by simp, by simp, by simp, by simp⟩
      · cases h
        obtain rfl := (hptr _ _ hx).1 rfl
        obtain ⟨a, rfl⟩ := (hptr _ _ hy).2 (.inl ⟨_, _, rfl⟩)
        refine ⟨by first | exact run_equal_nilp h2 | exact run_equal_pnil h2, by cases op <;> rfl, by simp, by simp, by simp, by simp⟩
      · cases h
        obtain ⟨a, rfl⟩ := (hptr _ _ hx).2 (.inl ⟨_, _, rfl⟩)
        obtain rfl := (hptr _ _ hy).1 rfl
        refine ⟨by first | exact run_equal_nilp h2 | exact run_equal_pnil h2, by cases op <;> rfl, by simp, by simp, by simp, by simp⟩
      · cases h
        obtain rfl := (hptr _ _ hx).1 rfl
        obtain ⟨a, rfl⟩ := (hptr _ _ hy).2 (.inr ⟨_, _, rfl⟩)
        refine ⟨by first | exact run_equal_nilp h2 | exact run_equal_pnil h2, by cases op <;> rfl, by simp, by simp, by simp, by simp⟩
      · cases h
        obtain ⟨a, rfl⟩ := (hptr _ _ hx).2 (.inr ⟨_, _, rfl⟩)
        obtain rfl := (hptr _ _ hy).1 rfl
        refine ⟨by first | exact run_equal_nilp h2 | exact run_equal_pnil h2, by cases op <;> rfl, by simp, by simp, by simp, by simp⟩
      · cases h
    · rename_i hd
      cases d <;> simp only [tyd, reduceCtorEq] at hd
      have hnil : ∀ z : AV, ∀ cz, VA M ρ G z cz → (z = .imm .niliface → cz = .nilIface) ∧ ((∃ u v, z = .imm (.iface u v)) → ∃ u v, cz = .iface u v) := by
        intro z cz hz
        refine ⟨fun e => by subst e; have := hz.imm_inv; cases this; rfl, fun e => ?_⟩
        obtain ⟨u, v, rfl⟩ := e
        have := hz.imm_inv; cases this; exact ⟨_, _, rfl⟩
      split at h
      · split at h
        · rename_i hc
          cases h
          obtain rfl := (hnil _ _ hx).1 rfl
          obtain rfl := (hnil _ _ hy).1 rfl
          refine ⟨by first | exact run_equal_ifnn h2 | exact run_equal_ifni h2 | exact run_equal_ifin h2, ?_, by simp, by simp, by simp, by simp⟩
          have hcc : (∃ v, ox = .const v) ∨ (∃ v, oy = .const v) := by
            simp only [Bool.or_eq_true] at hc
            rcases hc with hc | hc
            · left; cases ox <;> simp [isNilC] at hc ⊢
            · right; cases oy <;> simp [isNilC] at hc ⊢
          rcases hcc with ⟨v, rfl⟩ | ⟨v, rfl⟩
          · rw [eqGuard_nil_constL]; rfl
          · rw [eqGuard_nil_constR]; rfl
        · cases h
      · cases h
        obtain rfl := (hnil _ _ hx).1 rfl
        obtain ⟨u, v, rfl⟩ := (hnil _ _ hy).2 ⟨_, _, rfl⟩
        refine ⟨by first | exact run_equal_ifnn h2 | exact run_equal_ifni h2 | exact run_equal_ifin h2, by cases op <;> rfl, by simp, by simp, by simp, by simp⟩
      · cases h
        obtain ⟨u, v, rfl⟩ := (hnil _ _ hx).2 ⟨_, _, rfl⟩
        obtain rfl := (hnil _ _ hy).1 rfl
        refine ⟨by first | exact run_equal_ifnn h2 | exact run_equal_ifni h2 | exact run_equal_ifin h2, by cases op <;> rfl, by simp, by simp, by simp, by simp⟩
      · cases h
    · cases h
  · cases h

theorem binA_ok {op : BinOp} {t : TypeId} {x y v : AV} {cx cy : Value} {ox oy : Operand} (h : binA C op (isNilC ox || isNilC oy) t x y = some v) (hx : VA M ρ G x cx) (hy : VA M ρ G y cy) :
    ∃ u, (do eqGuard op t ox oy cx cy; binOp op t cx cy : Sem Value).run C.P w = .ok u w ∧ VA M ρ G v u := by
  unfold binA at h
  split at h
  · rename_i k a k' b
    split at h
    · rename_i hk
      subst hk
      simp only [Option.map_eq_some_iff] at h
      obtain ⟨z, hz, rfl⟩ := h
      obtain rfl := hx.int_inv
      obtain rfl := hy.int_inv
      obtain ⟨u, h1, h2⟩ := intOp_ok (P := C.P) (w := w) (M := M) (t := t) hz
      exact ⟨u, by rw [eqGuard_at_int]; simpa using h1, .imm _ _ h2⟩
    · cases h
  · rename_i a b
    simp only [Option.map_eq_some_iff] at h
    obtain ⟨z, hz, rfl⟩ := h
    obtain rfl := hx.str_inv
    obtain rfl := hy.str_inv
    obtain ⟨u, h1, h2⟩ := strOp_ok (P := C.P) (w := w) (M := M) (t := t) hz
    exact ⟨u, by rw [eqGuard_at_string]; simpa using h1, .imm _ _ h2⟩
  · split at h
    · simp only [Option.map_eq_some_iff] at h
      obtain ⟨b, hb, rfl⟩ := h
      obtain ⟨h1, h2, h3, h4, h5, h6⟩ := eqAV_ok (w := w) hb hx hy .eql
      refine ⟨.bool b, ?_, .imm _ _ (.bool _)⟩
      have : binOp .eql t cx cy = (do pure (.bool (← Op.equal t cx cy)) : Sem Value) := by
        cases cx <;> first | rfl | exact absurd rfl (h3 _ _) | exact absurd rfl (h4 _) | exact absurd rfl (h5 _ _) | exact absurd rfl (h6 _ _ _)
      simp only [Sem.run_bind, h2, Result.andThen_ok, this, h1, Sem.run_pure]
    · simp only [Option.map_eq_some_iff] at h
      obtain ⟨b, hb, rfl⟩ := h
      obtain ⟨h1, h2, h3, h4, h5, h6⟩ := eqAV_ok (w := w) hb hx hy .neq
      refine ⟨.bool !b, ?_, .imm _ _ (.bool _)⟩
      have : binOp .neq t cx cy = (do pure (.bool (!(← Op.equal t cx cy))) : Sem Value) := by
        cases cx <;> first | rfl | exact absurd rfl (h3 _ _) | exact absurd rfl (h4 _) | exact absurd rfl (h5 _ _) | exact absurd rfl (h6 _ _ _)
      simp only [Sem.run_bind, h2, Result.andThen_ok, this, h1, Sem.run_pure]
    · cases h

theorem unA_ok {op : UnOp} {x v : AV} {cx : Value} (h : unA op x = some v) (hx : VA M ρ G x cx) : ∃ u, (Op.unary op cx).run P w = .ok u w ∧ VA M ρ G v u := by
  unfold unA at h
  split at h
  · cases h; obtain rfl := hx.int_inv; exact ⟨_, by simp [Op.unary, Op.intArith], .imm _ _ (.int _ _)⟩
  · cases h; obtain rfl := hx.bool_inv; exact ⟨_, by simp [Op.unary], .imm _ _ (.bool _)⟩
  · cases h

theorem aMakeInterface_ok {t : TypeId} {x v : AV} {cx : Value} {ups : List (Nat × U)} (h : aMakeInterface C t x = some (.val v ups)) (hx : VA M ρ G x cx) : ups = [] ∧ ∃ u, (Instr.makeInterface t cx).run C.P w = .ok u w ∧ VA M ρ G v u := by
  unfold aMakeInterface at h
  split at h
  · rename_i i y hi
    obtain ⟨info, zv, d, h1, h2, h3, h4, h5, h6, h7, h8⟩ := tyOf_some hi
    have hx := hx.imm_inv
    split at h
    · cases h
    · cases h
    · rename_i n1 n2
      cases h
      refine ⟨rfl, _, ?_, .imm _ _ (.iface t _ _ hx)⟩
      simp only [Instr.makeInterface, Sem.run_bind, run_underlying' h2, Result.andThen_ok]
      cases d <;> first | rfl | (exact absurd (by rw [h5]; rfl) n1)
  · cases h

theorem aIndex_ok {t : TypeId} {x ix v : AV} {cx ci : Value} {ups : List (Nat × U)} (h : aIndex C t x ix = some (.val v ups)) (hx : VA M ρ G x cx) (hix : VA M ρ G ix ci) : ups = [] ∧ ∃ u, (Instr.index t cx ci).run C.P w = .ok u w ∧ VA M ρ G v u := by
  unfold aIndex at h
  split at h
  · rename_i k s kk n hk
    obtain rfl := hx.str_inv
    obtain rfl := hix.int_inv
    obtain ⟨info, zv, d, h1, h2, h3, h4, h5, h6, h7, h8⟩ := tyOf_some hk
    split at h
    · rename_i hd
      rw [hd] at h5
      cases d <;> simp only [tyd, reduceCtorEq] at h5
      split at h
      · rename_i hn
        cases h
        refine ⟨rfl, _, ?_, .imm _ _ (.int _ _)⟩
        have hlt : n.toNat < s.size := by omega
        have hlt2 : n.toNat < s.data.size := hlt
        have e : s[n.toNat]? = some (s.data[n.toNat]) := by rw [getElem?_pos s n.toNat hlt]; rfl
        simp only [Instr.index, asIntOf, pure_bind, Sem.run_bind, run_underlying' h2, Result.andThen_ok, hn.1, if_true, e]
        simp [Array.getD_eq_getD_getElem?, getElem?_pos s.data n.toNat hlt2]
      · cases h
    · cases h
  · cases h

theorem aExtract_ok {x v : AV} {i : Nat} {cx : Value} {ups : List (Nat × U)} (h : aExtract x i = some (.val v ups)) (hx : VA M ρ G x cx) : ups = [] ∧ ∃ u, (Instr.extract cx i).run P w = .ok u w ∧ VA M ρ G v u := by
  unfold aExtract at h
  split at h
  · rename_i vs
    split at h
    · rename_i y hy
      cases h
      have hx := hx.imm_inv
      cases hx with
      | tup _ cs hl hc =>
        have hi := (List.getElem?_eq_some_iff.1 hy).1
        have hlt : i < cs.size := by omega
        refine ⟨rfl, cs[i], by simp [Instr.extract, hlt], .imm _ _ ?_⟩
        have := hc i _ hy
        simpa [at_, Array.getD_eq_getD_getElem?, hlt] using this
    · cases h
  · rename_i vs
    split at h
    · rename_i y hy
      cases h
      cases hx with
      | tup _ cs hl hc =>
        have hi := (List.getElem?_eq_some_iff.1 hy).1
        have hlt : i < cs.size := by omega
        refine ⟨rfl, cs[i], by simp [Instr.extract, hlt], ?_⟩
        have := hc i _ hy
        simpa [at_, Array.getD_eq_getD_getElem?, hlt] using this
    · cases h
  · cases h

theorem aTypeAssert_ok {t xt : TypeId} {x v : AV} {ok : Bool} {cx : Value} {ups : List (Nat × U)} (h : aTypeAssert C x t ok = some (.val v ups)) (hx : VA M ρ G x cx) : ups = [] ∧ ∃ u, (Instr.typeAssert cx xt t ok).run C.P w = .ok u w ∧ VA M ρ G v u := by
  unfold aTypeAssert at h
  split at h
  · rename_i i hi
    obtain ⟨info, zv, d, h1, h2, h3, h4, h5, h6, h7, h8⟩ := tyOf_some hi
    split at h
    · cases h
    · cases h
    · rename_i n1 n2
      have hd : ∀ ms, d ≠ .interface ms := fun ms e => by subst e; exact n1 h5
      have hz : VA M ρ G i.zero zv := by rw [h8]; exact VA_cv zv
      split at h
      · split at h
        · rename_i hok
          cases h
          have hx := hx.imm_inv
          cases hx
          refine ⟨rfl, .tuple #[zv, .bool false], ?_, VA_pair hz (.imm _ _ (.bool _))⟩
          simp only [Instr.typeAssert, Sem.run_bind, run_underlying' h2, Result.andThen_ok]
          cases d <;> first | (exact absurd rfl (hd _)) | simp [hok, run_zeroValue' h1 h3]
        · cases h
      · rename_i u y
        have hx := hx.imm_inv
        cases hx with
        | iface _ _ cy hy =>
        split at h
        · rename_i hu
          cases h
          refine ⟨rfl, if ok then .tuple #[cy, .bool true] else cy, ?_, ?_⟩
          · simp only [Instr.typeAssert, Sem.run_bind, run_underlying' h2, Result.andThen_ok]
            cases d <;> first | (exact absurd rfl (hd _)) | simp [hu]
          · cases ok
            · exact .imm _ _ hy
            · exact .imm _ _ (.tup _ _ rfl fun i z hz => by
                match i, hz with
                | 0, hz => simp at hz; subst hz; exact hy
                | 1, hz => simp at hz; subst hz; exact .bool _
                | i + 2, hz => simp at hz)
        · rename_i hu
          split at h
          · rename_i hok
            cases h
            refine ⟨rfl, .tuple #[zv, .bool false], ?_, VA_pair hz (.imm _ _ (.bool _))⟩
            simp only [Instr.typeAssert, Sem.run_bind, run_underlying' h2, Result.andThen_ok]
            cases d <;> first | (exact absurd rfl (hd _)) | simp [hu, hok, run_zeroValue' h1 h3]
          · cases h
      · cases h
  · cases h

/-! ### conversions -/
theorem bytesOf_ok : ∀ {l : List AV} {bs : List UInt8}, bytesOf l = some bs → ∃ ns : List Int, l = ns.map (fun n => AV.imm (.int .u8 n)) ∧ bs = ns.map fun n => UInt8.ofNat n.toNat
  | [], bs, h => by cases h; exact ⟨[], rfl, rfl⟩
  | .imm (.int .u8 n) :: r, bs, h => by
    simp only [bytesOf, Option.map_eq_some_iff] at h
    obtain ⟨b', hb, rfl⟩ := h
    obtain ⟨ns, rfl, rfl⟩ := bytesOf_ok hb
    exact ⟨n :: ns, rfl, rfl⟩
  | .imm (.int .i8 n) :: r, bs, h => by simp [bytesOf] at h
  | .imm (.int .i16 n) :: r, bs, h => by simp [bytesOf] at h
  | .imm (.int .i32 n) :: r, bs, h => by simp [bytesOf] at h
  | .imm (.int .i64 n) :: r, bs, h => by simp [bytesOf] at h
  | .imm (.int .u16 n) :: r, bs, h => by simp [bytesOf] at h
  | .imm (.int .u32 n) :: r, bs, h => by simp [bytesOf] at h
  | .imm (.int .u64 n) :: r, bs, h => by simp [bytesOf] at h
  | .imm (.bool _) :: r, bs, h => by simp [bytesOf] at h
  | .imm (.str _) :: r, bs, h => by simp [bytesOf] at h
  | .imm (.lst _) :: r, bs, h => by simp [bytesOf] at h
  | .imm (.agg _) :: r, bs, h => by simp [bytesOf] at h
  | .imm (.tup _) :: r, bs, h => by simp [bytesOf] at h
  | .imm (.fptr _ _) :: r, bs, h => by simp [bytesOf] at h
  | .imm (.eptr _ _ _) :: r, bs, h => by simp [bytesOf] at h
  | .imm .nilp :: r, bs, h => by simp [bytesOf] at h
  | .imm .nilfn :: r, bs, h => by simp [bytesOf] at h
  | .imm .nilmap :: r, bs, h => by simp [bytesOf] at h
  | .imm .niliface :: r, bs, h => by simp [bytesOf] at h
  | .imm (.iface _ _) :: r, bs, h => by simp [bytesOf] at h
  | .imm (.fn _ _) :: r, bs, h => by simp [bytesOf] at h
  | .imm (.fmp _ _) :: r, bs, h => by simp [bytesOf] at h
  | .undef :: r, bs, h => by simp [bytesOf] at h
  | .nils :: r, bs, h => by simp [bytesOf] at h
  | .ptr _ _ :: r, bs, h => by simp [bytesOf] at h
  | .rptr _ _ _ _ :: r, bs, h => by simp [bytesOf] at h
  | .row _ _ :: r, bs, h => by simp [bytesOf] at h
  | .map _ :: r, bs, h => by simp [bytesOf] at h
  | .fn _ _ :: r, bs, h => by simp [bytesOf] at h
  | .agg _ :: r, bs, h => by simp [bytesOf] at h
  | .tup _ :: r, bs, h => by simp [bytesOf] at h
  | .yld _ :: r, bs, h => by simp [bytesOf] at h

theorem foldl_push (ns : List Int) : ∀ b : ByteArray, ns.foldl (fun r n => r.push (UInt8.ofNat n.toNat)) b = ⟨b.data ++ (ns.map fun n => UInt8.ofNat n.toNat).toArray⟩ := by
  induction ns with
  | nil => intro b; simp
  | cons n r ih => intro b; simp only [List.foldl_cons, ih]; simp [ByteArray.push]

theorem aConvert_ok {a b : TypeId} {x v : AV} {cx : Value} {ups : List (Nat × U)} (h : aConvert C G a b x = some (.val v ups)) (hI : Inv Q w M ρ G nx) (hx : VA M ρ G x cx) :
    ups = [] ∧ ∃ u, (convert a b cx).run C.P w = .ok u w ∧ VA M ρ G v u := by
  unfold aConvert at h
  split at h
  · rename_i i j hi hj
    obtain ⟨info, zv, d, h1, h2, h3, h4, h5, h6, h7, h8⟩ := tyOf_some hi
    obtain ⟨info', zv', d', k1, k2, k3, k4, k5, k6, k7, k8⟩ := tyOf_some hj
    split at h
    · rename_i k kk n hd
      cases h
      rw [hd] at k5
      cases d' <;> simp only [tyd, reduceCtorEq, TyD.int.injEq] at k5
      subst k5
      obtain rfl := hx.int_inv
      refine ⟨rfl, _, ?_, .imm _ _ (.int _ _)⟩
      simp only [convert, Sem.run_bind, run_underlying' h2, run_underlying' k2, Result.andThen_ok]
      rfl
    · rename_i s hd
      cases h
      rw [hd] at k5
      cases d' <;> simp only [tyd, reduceCtorEq] at k5
      obtain rfl := hx.str_inv
      refine ⟨rfl, _, ?_, .imm _ _ (.str _)⟩
      simp only [convert, Sem.run_bind, run_underlying' h2, run_underlying' k2, Result.andThen_ok]
      rfl
    · rename_i hd _
      split at h
      · rename_i e hde
        split at h
        · rename_i k hk
          obtain ⟨info2, zv2, d2, l1, l2, l3, l4, l5, l6, l7, l8⟩ := tyOf_some hk
          split at h
          · rename_i xs hkd hel
            split at h
            · rename_i l hl
              cases h
              rw [hd] at k5
              cases d' <;> simp only [tyd, reduceCtorEq] at k5
              rw [hde] at h5
              cases d <;> simp only [tyd, reduceCtorEq, TyD.sl.injEq] at h5
              subst h5
              rw [hkd] at l5
              cases d2 <;> simp only [tyd, reduceCtorEq, TyD.int.injEq] at l5
              subst l5
              refine ⟨rfl, .string ⟨l.toArray⟩, ?_, .imm _ _ (.str _)⟩
              have hcv : ∀ s : Value, (∀ k n, s ≠ .int k n) → (∀ s', s ≠ .string s') → (∀ k b, s ≠ .float k b) → (∀ k b c, s ≠ .complex k b c) → (convert a b s).run C.P w = (Conv.bytesToString s).run C.P w := by
                intro s n1 n2 n3 n4
                simp only [convert, Sem.run_bind, run_underlying' h2, run_underlying' k2, Result.andThen_ok]
                cases s <;> first | (exact absurd rfl (n1 _ _)) | (exact absurd rfl (n2 _)) | (exact absurd rfl (n3 _ _)) | (exact absurd rfl (n4 _ _ _)) | simp only [run_underlying' l2, Result.andThen_ok]
              rcases elems_ok hel hI hx with ⟨rfl, rfl⟩ | ⟨ad, cp, rfl, hrest⟩
              · cases hl
                rw [hcv _ (by simp) (by simp) (by simp) (by simp)]
                rfl
              · rw [hcv _ (by simp) (by simp) (by simp) (by simp)]
                obtain ⟨ns, rfl, rfl⟩ := bytesOf_ok hl
                have hload : (loadCells ad (ns.map (fun n => AV.imm (.int .u8 n))).length).run C.P w = .ok (ns.map (Value.int .u8)).toArray w := by
                  have := run_loadCells_list (P := C.P) w ad (ns.map (Value.int .u8)) (fun jx vx hvx => ?_)
                  · simpa using this
                  · rcases hrest with h0 | ⟨bb, off, cs, e', fr, sz, rfl, g1, g2, g3, g4, g5⟩
                    · simp at h0; subst h0; simp at hvx
                    · rw [List.getElem?_map, Option.map_eq_some_iff] at hvx
                      obtain ⟨n, hn, rfl⟩ := hvx
                      have hj := (List.getElem?_eq_some_iff.1 hn).1
                      have hs1 : sz = 1 := by rw [← g3 (.imm (.int .u8 n)) (List.mem_map.2 ⟨n, List.mem_of_getElem? hn, rfl⟩)]; rfl
                      subst hs1
                      have := g5 jx (.imm (.int .u8 n)) 0 (.imm (.int .u8 n)) (by simp [hn]) rfl
                      have e1 := this.int_inv
                      rw [add_none, cell_at g1 (by simp at g4; omega)]
                      simpa using e1
                rw [run_bytesToString w _ _ _ ns hload, foldl_push]
                simp
            · cases h
          · cases h
        · cases h
      · cases h
    · cases h
  · cases h

/-! ### slices -/
def OVA (M : Mem) (ρ : Ref) (G : Nat → Obj) : Option AV → Option Value → Prop
  | none, none => True
  | some a, some c => VA M ρ G a c
  | _, _ => False

theorem bound_ok {n d m : Nat} {o : Option AV} {oc : Option Value} (h : bound n d o = some m) (ho : OVA M ρ G o oc) :
    (oc = none ∧ m = d) ∨ ∃ k i, oc = some (.int k i) ∧ 0 ≤ i ∧ i ≤ n ∧ m = i.toNat := by
  unfold bound at h
  split at h
  · cases oc with
    | some c => exact absurd ho (by simp [OVA])
    | none => cases h; exact .inl ⟨rfl, rfl⟩
  · rename_i k i
    cases oc with
    | none => exact absurd ho (by simp [OVA])
    | some c =>
      have ho : VA M ρ G (.imm (.int k i)) c := ho
      obtain rfl := ho.int_inv
      split at h
      · rename_i hi; cases h; exact .inr ⟨k, i, rfl, hi.1, hi.2, rfl⟩
      · cases h
  · cases h

theorem ovl {tmps : Nat → AV} {arr : Array Value} (hT : TR M ρ G tmps arr) (o : Option Operand) : OVA M ρ G (o.map (Go.Abs.ev tmps)) (o.map (evV arr)) := by
  cases o with
  | none => trivial
  | some x => exact hT.ev x

theorem sb_run {k : IntKind} {i : Int} {n : Nat} {code : BoundsCode} (h0 : 0 ≤ i) (h1 : i ≤ n) : (Instr.sliceBound (.int k i) n code).run P w = .ok i.toNat w := by
  simp [Instr.sliceBound, asIntOf, h0, h1]

theorem sliceBounds_run {sl : Bool} {len cap l h : Nat} {lo hi : Option AV} {clo chi : Option Value} (hh : bound len len hi = some h) (hl : bound h 0 lo = some l) (h1 : OVA M ρ G hi chi) (h2 : OVA M ρ G lo clo) (hc : len ≤ cap) :
    (Instr.sliceBounds sl len cap clo chi none).run P w = .ok (l, h, cap) w := by
  rcases bound_ok hh h1 with ⟨rfl, rfl⟩ | ⟨k, i, rfl, i0, i1, rfl⟩ <;> rcases bound_ok hl h2 with ⟨rfl, rfl⟩ | ⟨k', i', rfl, j0, j1, rfl⟩
  · simp [Instr.sliceBounds]
  · simp [Instr.sliceBounds, sb_run j0 j1]
  · have : i ≤ (cap : Int) := by omega
    simp [Instr.sliceBounds, sb_run i0 this]
  · have : i ≤ (cap : Int) := by omega
    simp [Instr.sliceBounds, sb_run i0 this, sb_run j0 j1]

theorem drop_take_get {α : Type} {l : List α} {a b i : Nat} {x : α} (h : ((l.take b).drop a)[i]? = some x) : l[a + i]? = some x ∧ a + i < b := by
  rw [List.getElem?_drop, List.getElem?_take] at h
  split at h
  · rename_i hlt; exact ⟨h, hlt⟩
  · cases h

theorem VI_sub {sz : Nat} {xs : List IV} {c : Value} {l h : Nat} (hv : VI M (.lst xs) c) (hsz : ∀ y ∈ xs, y.cells.length = sz) (hlh : l ≤ h) (hh : h ≤ xs.length) :
    ∃ a n cp, c = .slice a n cp ∧ n = xs.length ∧ n ≤ cp ∧ VI M (.lst ((xs.take h).drop l)) (.slice (if cp = l then a else a.map (·.add (l * sz))) (h - l) (cp - l)) := by
  cases hv with
  | nil =>
    refine ⟨_, _, _, rfl, rfl, Nat.le_refl _, ?_⟩
    obtain rfl : h = 0 := by simpa using hh
    obtain rfl : l = 0 := by omega
    simpa using VI.nil
  | empty ad cp =>
    refine ⟨_, _, _, rfl, rfl, Nat.zero_le _, ?_⟩
    obtain rfl : h = 0 := by simpa using hh
    obtain rfl : l = 0 := by omega
    have : (if cp = 0 then some ad else (some ad).map (·.add (0 * sz))) = some ad := by
      split
      · rfl
      · cases ad with
        | mk b o s => simp [Addr.add]
    simp only [this, Nat.sub_zero, List.take_zero, List.drop_nil]
    exact .empty _ _
  | lst _ b off cp cs e fr sz' h0 hc hM hs h1 h2 hl =>
    refine ⟨_, _, _, rfl, rfl, hc, ?_⟩
    have hlen : ((xs.take h).drop l).length = h - l := by simp; omega
    rcases Nat.lt_or_ge l h with hlt | hge
    · have hszz : sz' = sz := by
        cases xs with
        | nil => exact absurd rfl h0
        | cons x0 r => rw [← h1 0 x0 rfl]; exact hsz x0 (by simp)
      subst hszz
      have hne : (xs.take h).drop l ≠ [] := fun e => by rw [e] at hlen; simp at hlen; omega
      have ha : (if cp = l then some (⟨b, off, none⟩ : Addr) else (some (⟨b, off, none⟩ : Addr)).map (·.add (l * sz'))) = some ⟨b, off + l * sz', none⟩ := by
        rw [if_neg (by omega)]; simp [add_none]
      rw [ha, ← hlen]
      refine .lst _ b _ _ cs e fr sz' hne (by omega) hM hs (fun i x hx => h1 _ x (drop_take_get hx).1) ?_ (fun i x j y hx hy => ?_)
      · have : (l + (h - l)) * sz' ≤ xs.length * sz' := Nat.mul_le_mul_right _ (by omega)
        rw [Nat.add_mul] at this
        rw [hlen]; omega
      · have := hl (l + i) x j y (drop_take_get hx).1 hy
        rw [Nat.add_mul] at this
        rw [show off + l * sz' + i * sz' + j = off + (l * sz' + i * sz') + j by omega]
        exact this
    · obtain rfl : l = h := by omega
      have : (xs.take l).drop l = [] := by apply List.eq_nil_of_length_eq_zero; omega
      rw [this, Nat.sub_self]
      split
      · exact .empty _ _
      · simp only [Option.map_some, add_none]
        exact .empty _ _

theorem bound_le {n d m : Nat} {o : Option AV} (h : bound n d o = some m) (hd : d ≤ n) : m ≤ n := by
  unfold bound at h
  split at h
  · cases h; exact hd
  · split at h
    · cases h; omega
    · cases h
  · cases h

theorem VI_lst_slice {xs : List IV} {c : Value} (h : VI M (.lst xs) c) : ∃ a cp, c = .slice a xs.length cp ∧ xs.length ≤ cp := by
  cases h with
  | nil => exact ⟨_, _, rfl, Nat.le_refl _⟩
  | empty => exact ⟨_, _, rfl, Nat.zero_le _⟩
  | lst _ _ _ _ _ _ _ _ _ hc => exact ⟨_, _, rfl, hc⟩

theorem aSlice_ok {s : St} {arr : Array Value} {t : TypeId} {x : Operand} {lo hi : Option Operand} {v : AV} {ups : List (Nat × U)} (h : aSlice C s t (Go.Abs.ev s.tmps x) (lo.map (Go.Abs.ev s.tmps)) (hi.map (Go.Abs.ev s.tmps)) = some (.val v ups)) (hI : Inv Q w M ρ s.G nx)
    (hT : TR M ρ s.G s.tmps arr) : Good id Q M ρ s.G nx w (updL s.G ups) v ((vNext (Instr.sliceAt t (evV arr x) (lo.map (evV arr)) (hi.map (evV arr)) none)).run C.P w) := by
  have hx := hT.ev x
  have hlo := ovl hT lo
  have hhi := ovl hT hi
  generalize Go.Abs.ev s.tmps x = ax at h hx
  generalize evV arr x = cx at hx ⊢
  generalize lo.map (Go.Abs.ev s.tmps) = alo at h hlo
  generalize lo.map (evV arr) = clo at hlo ⊢
  generalize hi.map (Go.Abs.ev s.tmps) = ahi at h hhi
  generalize hi.map (evV arr) = chi at hhi ⊢
  unfold aSlice at h
  split at h
  · rename_i i hi'
    obtain ⟨info, zv, d, h1, h2, h3, h4, h5, h6, h7, h8⟩ := tyOf_some hi'
    split at h
    · rename_i hd
      rw [hd] at h5
      cases d <;> simp only [tyd, reduceCtorEq] at h5
      split at h
      · rename_i s' 
        obtain rfl := hx.str_inv
        split at h
        · rename_i hh hhv
          split at h
          · rename_i l hlv
            cases h
            refine Good.pure hI (run_vNext (c := .string (s'.extract l hh)) ?_) (.imm _ _ (.str _))
            simp only [Instr.sliceAt, Instr.slice, Sem.run_bind, run_underlying' h2, Result.andThen_ok, Option.isSome_none, Bool.false_eq_true, if_false, sliceBounds_run hhv hlv hhi hlo (Nat.le_refl _), Sem.run_pure]
          · cases h
        · cases h
      · cases h
    · rename_i et hd
      rw [hd] at h5
      cases d <;> simp only [tyd, reduceCtorEq, TyD.sl.injEq] at h5
      rename_i et'
      subst h5
      split at h
      · rename_i xs ids k hpk hk
        obtain ⟨info2, zv2, d2, l1, l2, l3, l4, l5, l6, l7, l8⟩ := tyOf_some hk
        split at h
        · rename_i hh hhv
          split at h
          · rename_i l hlv
            split at h
            · rename_i hall
              injection h with h
              have hV := peek_VI hI pkDepth ax (.lst xs) ids cx hpk (fun o h => h) hx
              obtain ⟨a, cp, rfl, hcp⟩ := VI_lst_slice hV
              have hhle := bound_le hhv (Nat.le_refl _)
              have hlle := bound_le hlv (Nat.zero_le _)
              obtain ⟨a', n', cp', e, -, -, hsub⟩ := VI_sub hV (by simpa using hall) hlle hhle
              cases e
              refine good_give hI (peek_live _ _ _ _ hpk) h (by simp) hsub (run_vNext ?_)
              simp only [Instr.sliceAt, Instr.slice, Sem.run_bind, run_underlying' h2, Result.andThen_ok, sliceBounds_run hhv hlv hhi hlo hcp, run_sizeOf' l1, ← l6, Sem.run_pure]
            · cases h
          · cases h
        · cases h
      · cases h
    · cases h
  · cases h

end Go.Abs
