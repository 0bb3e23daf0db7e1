/- The abstract interpreter: a logic of what code comes to: calls by reference, rounds, ranges over functions. -/
import Derived.Test.YtpkmljhdaijanaaAbsWp
namespace Go.Abs
variable {C : Cfg} {fid nt : Nat} {l : Env} {G : Nat → Obj} {nx : Nat} {df : List (AV × List AV)} {pk : Pk} {Φ Φ' : Out → Prop} {a b : Code} {ol r : List Oper} {base i d : Nat} {ty : TypeId} {pos : String} {af : Array Edge} {v : AV} {id : Nat}

/-- Less is known of memory. -/
theorem R.gen {P : (Nat → Obj) → Nat → Nat → Prop} (h0 : P G nx base) (h : ∀ G nx base, P G nx base → R C nt ol base i r l G nx df pk Φ) : R C nt ol base i r l G nx df pk Φ := h _ _ _ h0
theorem W.gen {P : (Nat → Obj) → Nat → Prop} (h0 : P G nx) (h : ∀ G nx, P G nx → W C fid nt b l G nx df pk Φ) : W C fid nt b l G nx df pk Φ := h _ _ h0

def Rnd (C : Cfg) (q : Nat) (vs : List AV) (G : Nat → Obj) (nx : Nat) (Ψ : AV → (Nat → Obj) → Nat → Prop) : Prop := ∃ n v G' nx', (low C n).round q vs G nx = some (.ret v G' nx', .no) ∧ Ψ v G' nx'
def Cal (C : Cfg) (f : FuncId) (vs : List AV) (G : Nat → Obj) (nx : Nat) (Ψ : AV → (Nat → Obj) → Nat → Prop) : Prop := ∃ n v G' nx', (low C n).call f vs .no G nx = some (.ret v G' nx', .no) ∧ Ψ v G' nx'

theorem Rnd.mono {q : Nat} {vs : List AV} {Ψ Ψ' : AV → (Nat → Obj) → Nat → Prop} (h : Rnd C q vs G nx Ψ) (hi : ∀ v G' nx', Ψ v G' nx' → Ψ' v G' nx') : Rnd C q vs G nx Ψ' := by
  obtain ⟨n, v, G', nx', h1, h2⟩ := h
  exact ⟨n, v, G', nx', h1, hi _ _ _ h2⟩
theorem Cal.mono {q : Nat} {vs : List AV} {Ψ Ψ' : AV → (Nat → Obj) → Nat → Prop} (h : Cal C q vs G nx Ψ) (hi : ∀ v G' nx', Ψ v G' nx' → Ψ' v G' nx') : Cal C q vs G nx Ψ' := by
  obtain ⟨n, v, G', nx', h1, h2⟩ := h
  exact ⟨n, v, G', nx', h1, hi _ _ _ h2⟩

theorem Cal.of {f : FuncId} {fn : Func} {b : Code} {vs : List AV} {Ψ : AV → (Nat → Obj) → Nat → Prop} (hf : C.fn f = some fn) (hb : fn.body = some b) (hn : Nat.ble vs.length fn.ntmps = true)
    (h : W C f fn.ntmps b (envOf 0 vs) G nx [] .no (fin C fn.results.toList Ψ)) : Cal C f vs G nx Ψ :=
  call_of hf hb (Nat.le_of_ble_eq_true hn) (h.st _ (agree_init _))

theorem R.wr {op : Op} {G' : Nat → Obj} {nx' : Nat} (h : ∀ t, Agree t l → ∃ n, opA C (low C n) (base + i) ⟨t, G, nx, df, pk⟩ op = some (.wr v ⟨t, G', nx', df, pk⟩)) (hd : Nat.ble (d + 1) nt = true)
    (next : R C nt ol base (i + 1) r ((d, v) :: l) G' nx' df pk Φ) : R C nt ol base i (⟨some d, op, ty, pos, af, none⟩ :: r) l G nx df pk Φ := by
  refine .mk fun t ht => ?_
  obtain ⟨n, hn⟩ := h t ht
  obtain ⟨m, o, h1, h2⟩ := next.st (upd t d v) (ht.put d v)
  refine ⟨max n m, o, ?_, h2⟩
  have hlt : d < nt := Nat.le_of_ble_eq_true hd
  unfold runL stepA
  simp only [wantA, opA_mono (low_mono (Nat.le_max_left n m)) hn, put, if_pos hlt]
  exact runL_mono (low_mono (Nat.le_max_right n m)) _ _ _ h1

/-- A call of the loop's body. -/
theorem R.round {f : Operand} {as : List Operand} {ats : Array TypeId} {vs : List AV} {q : Nat} (hf : lookO l f = some (.yld q)) (ha : looks l as = some vs) (hd : Nat.ble (d + 1) nt = true)
    (hr : Rnd C q vs G nx fun v G' nx' => R C nt ol base (i + 1) r ((d, v) :: l) G' nx' df pk Φ) :
    R C nt ol base i (⟨some d, .call { callee := .value f, args := ⟨as⟩, argTypes := ats }, ty, pos, af, none⟩ :: r) l G nx df pk Φ := by
  obtain ⟨n, v, G', nx', h1, h2⟩ := hr
  refine R.wr (G' := G') (nx' := nx') (fun t ht => ⟨n, ?_⟩) hd h2
  simp only [opA, ht.ev hf, aCall, ht.evs ha, h1]

theorem R.callB {f : Operand} {as : List Operand} {ats : Array TypeId} {vs cap : List AV} {fv : AV} {k : FuncId} (hf : lookO l f = some fv) (hfn : fnOf fv = some (.func k, cap)) (hb : C.byref k = true) (ha : looks l as = some vs) (hd : Nat.ble (d + 1) nt = true)
    (hr : Cal C k (vs ++ cap) G nx fun v G' nx' => R C nt ol base (i + 1) r ((d, v) :: l) G' nx' df pk Φ) :
    R C nt ol base i (⟨some d, .call { callee := .value f, args := ⟨as⟩, argTypes := ats }, ty, pos, af, none⟩ :: r) l G nx df pk Φ := by
  obtain ⟨n, v, G', nx', h1, h2⟩ := hr
  refine R.wr (G' := G') (nx' := nx') (fun t ht => ⟨n, ?_⟩) hd h2
  simp only [opA, ht.ev hf, ht.evs ha]
  have : aCall C (low C n) (base + i) ⟨t, G, nx, df, pk⟩ fv vs = callA C (low C n) (base + i) ⟨t, G, nx, df, pk⟩ k (vs ++ cap) := by
    unfold aCall
    split
    · cases hfn
    · rw [hfn]
  rw [this]
  simp only [callA, hb, if_true, h1]

/-! ### rounds -/
def frd (q : Nat) (Ψ : AV → (Nat → Obj) → Nat → Prop) : Out → Prop
  | .norm s => ∃ t n p a b f e, s.G q = .lp t n p a b f 1 e ∧ Ψ (.imm (.bool true)) (upd s.G q (.lp t n p a b f 0 none)) s.nx
  | .exit id s => ∃ t n p a b f e, s.G q = .lp t n p a b f 1 e ∧ Ψ (.imm (.bool false)) (upd s.G q (.lp t n p a b f 2 (some (.exit id)))) s.nx
  | .ret s => ∃ t n p a b f e, s.G q = .lp t n p a b f 1 e ∧ Ψ (.imm (.bool false)) (upd s.G q (.lp t n p a b f 2 (some .ret))) s.nx
  | .pan _ _ => False

def ast (C : Cfg) (q fid nt : Nat) (body : Code) (Ψ : AV → (Nat → Obj) → Nat → Prop) : Out → Prop
  | .norm s => ∃ t n p a b f e, s.G q = .lp t n p a b f 0 e ∧ Wst C fid nt body { s with G := upd s.G q (.lp t n p a b f 1 e) } (frd q Ψ)
  | _ => False

def bindE (l : Env) : List (Nat × AV) → Env
  | [] => l
  | (p, v) :: r => bindE ((p, v) :: l) r

theorem agree_bind : ∀ (ps : List (Nat × AV)) {t : Nat → AV} {l : Env}, Agree t l → Agree (bindT t ps) (bindE l ps)
  | [], _, _, h => h
  | (p, v) :: r, _, _, h => agree_bind r (h.put p v)

theorem Rnd.of {q : Nat} {vs : List AV} {Ψ : AV → (Nat → Obj) → Nat → Prop} {t : Nat → AV} {ps : List Nat} {assign body : Code} {e : Option Code} (hq : G q = .lp t nt ps assign body fid 0 e) (ht : Agree t l) (hl : ps.length = vs.length) (hps : (ps.all fun t => decide (t < nt)) = true)
    (h : W C fid nt assign (bindE l (ps.zip vs)) G nx [] .rnd (ast C q fid nt body Ψ)) : Rnd C q vs G nx Ψ := by
  obtain ⟨n, o, h1, h2⟩ := h.st _ (agree_bind (ps.zip vs) ht)
  cases o with
  | norm s =>
    obtain ⟨t2, n2, p2, a2, b2, f2, e2, h3, m, o, h4, h5⟩ := h2
    have e1 := code_mono (low_mono (Nat.le_max_left n m)) (Nat.le_max_left n m) _ _ _ h1
    have e4 := code_mono (low_mono (Nat.le_max_right n m)) (Nat.le_max_right n m) _ _ _ h4
    cases o with
    | norm s1 =>
      obtain ⟨t3, n3, p3, a3, b3, f3, e3, h6, h7⟩ := h5
      exact ⟨max n m + 1, _, _, _, by simp only [low, roundF, hq, hl, hps, true_and, if_true, e1, h3, e4, h6], h7⟩
    | exit id s1 =>
      obtain ⟨t3, n3, p3, a3, b3, f3, e3, h6, h7⟩ := h5
      exact ⟨max n m + 1, _, _, _, by simp only [low, roundF, hq, hl, hps, true_and, if_true, e1, h3, e4, h6], h7⟩
    | ret s1 =>
      obtain ⟨t3, n3, p3, a3, b3, f3, e3, h6, h7⟩ := h5
      exact ⟨max n m + 1, _, _, _, by simp only [low, roundF, hq, hl, hps, true_and, if_true, e1, h3, e4, h6], h7⟩
    | pan _ _ => exact h5.elim
  | _ => exact h2.elim

theorem R.doneAst {q : Nat} {Ψ : AV → (Nat → Obj) → Nat → Prop} {body : Code} {t : Nat → AV} {n : Nat} {p : List Nat} {a b : Code} {f : FuncId} {e : Option Code} (hG : G q = .lp t n p a b f 0 e)
    (h : W C fid nt body l (upd G q (.lp t n p a b f 1 e)) nx df pk (frd q Ψ)) : R C nt ol base i [] l G nx df pk (ast C q fid nt body Ψ) :=
  .mk fun t' ht => ⟨0, _, rfl, t, n, p, a, b, f, e, hG, h.st t' ht⟩

theorem W.skipFrd {q : Nat} {Ψ : AV → (Nat → Obj) → Nat → Prop} {t : Nat → AV} {n : Nat} {p : List Nat} {a b : Code} {f : FuncId} {e : Option Code} (hG : G q = .lp t n p a b f 1 e) (h : Ψ (.imm (.bool true)) (upd G q (.lp t n p a b f 0 none)) nx) :
    W C fid nt .skip l G nx df pk (frd q Ψ) := .skip fun _ _ => ⟨t, n, p, a, b, f, e, hG, h⟩
theorem W.retFrd {q : Nat} {Ψ : AV → (Nat → Obj) → Nat → Prop} {t : Nat → AV} {n : Nat} {p : List Nat} {a b : Code} {f : FuncId} {e : Option Code} (hG : G q = .lp t n p a b f 1 e) (h : Ψ (.imm (.bool false)) (upd G q (.lp t n p a b f 2 (some .ret))) nx) :
    W C fid nt .ret l G nx df pk (frd q Ψ) := .ret fun _ _ => ⟨t, n, p, a, b, f, e, hG, h⟩
theorem W.exitFrd {id q : Nat} {Ψ : AV → (Nat → Obj) → Nat → Prop} {t : Nat → AV} {n : Nat} {p : List Nat} {a b : Code} {f : FuncId} {e : Option Code} (hG : G q = .lp t n p a b f 1 e) (h : Ψ (.imm (.bool false)) (upd G q (.lp t n p a b f 2 (some (.exit id)))) nx) :
    W C fid nt (.exit id) l G nx df pk (frd q Ψ) := .exit fun _ _ => ⟨t, n, p, a, b, f, e, hG, h⟩

/-! ### ranges over functions -/
def rng (q : Nat) (t : Nat → AV) (df : List (AV × List AV)) (pk : Pk) (Φ : Out → Prop) (_ : AV) (G1 : Nat → Obj) (nx1 : Nat) : Prop :=
  ∃ t2 n2 p2 a2 b2 f2 st pend, G1 q = .lp t2 n2 p2 a2 b2 f2 st pend ∧ st ≠ 1 ∧ match pend with
    | none => Φ (.norm ⟨t, upd G1 q .gone, nx1, df, pk⟩)
    | some (.exit id) => Φ (.exit id ⟨t, upd G1 q .gone, nx1, df, pk⟩)
    | some .ret => Φ (.ret ⟨t, upd G1 q .gone, nx1, df, pk⟩)
    | _ => False

def pendOut (s : St) : Option Code → Option Out
  | none => some (.norm s)
  | some (.exit id) => some (.exit id s)
  | some .ret => some (.ret s)
  | _ => none

def Pk.isRnd : Pk → Bool
  | .rnd => true
  | _ => false

theorem W.range {f : Operand} {ps : Array Nat} {assign body : Code} {fv : AV} {k : FuncId} {cap : List AV} (hf : lookO l f = some fv) (hfn : fnOf fv = some (.func k, cap)) (hb : C.byref k = true) (hpk : pk.isRnd = false)
    (h : ∀ t, Agree t l → Cal C k (.yld nx :: cap) (upd G nx (.lp t nt ps.toList assign body fid 0 none)) (nx + 2) (rng nx t df pk Φ)) : W C fid nt (.rangeFunc f ps assign body) l G nx df pk Φ := by
  refine .mk fun t ht => ?_
  obtain ⟨n, v, G1, nx1, h1, t2, n2, p2, a2, b2, f2, st, pend, h2, h3, h4⟩ := h t ht
  have hk : ∀ lf, code C (low C n) lf fid nt (.rangeFunc f ps assign body) ⟨t, G, nx, df, pk⟩ = rangeA C (low C n) fid nt (Go.Abs.ev t f) ps.toList assign body ⟨t, G, nx, df, pk⟩ := by
    intro lf
    unfold code
    cases pk <;> first | rfl | (simp [Pk.isRnd] at hpk)
  have e : rangeA C (low C n) fid nt (Go.Abs.ev t f) ps.toList assign body ⟨t, G, nx, df, pk⟩ = pendOut ⟨t, upd G1 nx .gone, nx1, df, pk⟩ pend := by
    unfold rangeA
    simp only [ht.ev hf, hfn, callA, hb, if_true, h1, h2, if_neg h3]
    clear h2 h4
    rcases pend with _ | c
    · rfl
    · cases c <;> rfl
  clear h2
  rcases pend with _ | c
  · exact ⟨n, _, by rw [hk, e]; rfl, h4⟩
  · cases c with
    | exit id => exact ⟨n, _, by rw [hk, e]; rfl, h4⟩
    | ret => exact ⟨n, _, by rw [hk, e]; rfl, h4⟩
    | _ => exact h4.elim

theorem W.retFinC {a : Nat} {t : TypeId} {o : Nat} {k : TyI} {u : AV} {fr : Bool} {Ψ : AV → (Nat → Obj) → Nat → Prop} [hk : TyIs C t k] (ha : look l a = some (.ptr o 0)) (hG : G o = .box [u] fr) (hg : k.d.isAgg = false) (hs : k.sz = 1) (h : Ψ u G nx) :
    W C fid nt .ret l G nx [] .no (fin C [.cell a t] Ψ) :=
  .ret fun t ht => ⟨rfl, rfl, u, by simp [resultsA, resultsL, resultA, ht _ _ ha, aLoad, hk.is, hg, hs, readAt, hG, Go.Abs.sub], h⟩

/-! ### rows of the call's own -/
theorem O.buildS {t e : TypeId} {n : Nat} {parts : List (Nat × Operand)} {k ke : TyI} {xs : List AV} [hk : TyIs C t k] (ht : k.d = .sl e) [he : TyIs C e ke] (hp : looks l (parts.map (·.2)) = some xs) (hi : parts.map (·.1) = List.range n)
    (hn : n * ke.sz ≤ 4096) (hz : ke.zero.fits ke.sz = true) (hx : xs.all (AV.fits ke.sz) = true) (hs : 0 < ke.sz) :
    OpV C id l G nx df pk (.buildSlice t n ⟨parts⟩) (.row id n) [(id, .set (.row e ke.sz xs false))] := by
  have hlen : xs.length = n := by
    have : ∀ (l' : List Operand) {vs : List AV}, looks l l' = some vs → vs.length = l'.length := by
      intro l'
      induction l' with
      | nil => intro vs h; cases h; rfl
      | cons x r ih =>
        intro vs h
        unfold looks at h
        split at h
        · split at h
          · rename_i hw; cases h; simp [ih hw]
          · cases h
        · cases h
    have h1 := this _ hp
    have h2 := congrArg List.length hi
    simp at h1 h2
    omega
  refine O.of fun t' L hA => ?_
  have hev := hA.evs hp
  have hparts : (parts.map fun p => (p.1, Go.Abs.ev t' p.2)) = (List.range n).zip xs := by
    rw [← hi, ← hev, List.map_map]
    rw [List.zip_map', ]
    rfl
  have key : ∀ (xs ys : List AV) (k : Nat), k + xs.length = ys.length → fillE ys ((List.range' k xs.length).zip xs) = ys.take k ++ xs := by
    intro xs
    induction xs with
    | nil => intro ys k h; simp at h; simp [fillE, h]
    | cons x r ih =>
      intro ys k h
      simp only [List.length_cons] at h
      simp only [List.length_cons, List.range'_succ, List.zip_cons_cons, fillE]
      rw [ih (ys.set k x) (k + 1) (by simp; omega)]
      rw [List.take_set, List.take_succ_eq_append_getElem (by omega)]
      rw [List.set_append_right _ _ (by simp; omega)]
      simp
      have : k - min k ys.length = 0 := by omega
      rw [this]; simp
  have hfill : fillE (List.replicate n ke.zero) ((List.range n).zip xs) = xs := by
    rw [List.range_eq_range', ← hlen]
    have := key xs (List.replicate xs.length ke.zero) 0 (by simp)
    simpa using this
  have hall : ((List.range n).zip xs).all (fun p => p.2.fits ke.sz && decide (p.1 < n)) = true := by
    rw [List.all_eq_true]
    intro p hp
    have h1 := List.of_mem_zip hp
    rw [List.all_eq_true] at hx
    simp only [List.mem_range] at h1
    simp [hx _ h1.2, h1.1]
  simp only [opA, aBuildSlice, hk.is, ht, he.is, hparts]
  rw [if_pos ⟨hn, hz, hall, hs⟩, hfill]

theorem O.appNil {t u e : TypeId} {x y : Operand} {k ke : TyI} {ys : List AV} [hk : TyIs C t k] (ht : k.d = .sl e) [he : TyIs C e ke] (hu : Nat.beq t u = true) (hx : lookO l x = some .nils) {w : AV} (hy : lookO l y = some w) (hw : elems G w = some ys)
    (hs : 0 < ke.sz) (hb : ke.bytes ≤ 4096) (hz : ke.zero.fits ke.sz = true) (hys : ys.all (AV.fits ke.sz) = true) (hm : ys.length ≤ most) :
    OpV C id l G nx df pk (.call { callee := .builtin .append, args := #[x, y], argTypes := #[t, u] }) (.row id ys.length) [(id, .set (.row e ke.sz ys false))] := by
  have : t = u := Nat.eq_of_beq_eq_true hu
  subst this
  refine O.of fun t' L hA => ?_
  simp only [opA, List.map_cons, List.map_nil, hA.ev hx, hA.ev hy, aBuiltin, aAppend, hk.is, ht, he.is, hw]
  rw [if_pos ⟨trivial, hs, hb, hz, hys⟩]
  simp [hm]
theorem O.appRow {t u e : TypeId} {x y : Operand} {k ke : TyI} {xs ys : List AV} {o n : Nat} [hk : TyIs C t k] (ht : k.d = .sl e) [he : TyIs C e ke] (hu : Nat.beq t u = true) (hx : lookO l x = some (.row o n)) (hG : G o = .row e ke.sz xs false) (hn : xs.length = n) {w : AV} (hy : lookO l y = some w) (hw : elems G w = some ys)
    (hs : 0 < ke.sz) (hb : ke.bytes ≤ 4096) (hz : ke.zero.fits ke.sz = true) (hys : ys.all (AV.fits ke.sz) = true) (hm : n + ys.length ≤ most) :
    OpV C id l G nx df pk (.call { callee := .builtin .append, args := #[x, y], argTypes := #[t, u] }) (.row o (xs ++ ys).length) [(o, .set (.row e ke.sz (xs ++ ys) false))] := by
  have : t = u := Nat.eq_of_beq_eq_true hu
  subst this
  refine O.of fun t' L hA => ?_
  simp only [opA, List.map_cons, List.map_nil, hA.ev hx, hA.ev hy, aBuiltin, aAppend, hk.is, ht, he.is, hw]
  rw [if_pos ⟨trivial, hs, hb, hz, hys⟩]
  simp only [hG]
  rw [if_pos ⟨hn, trivial, trivial, hm⟩]

def AV.isStr : AV → Bool
  | .imm (.str _) => true
  | _ => false

/-- The string of some bytes. -/
theorem O.convBS {t u e : TypeId} {x : Operand} {k k' ke : TyI} {ys : List AV} {bs : List UInt8} [hk : TyIs C t k] (ht : k.d = .sl e) [hu : TyIs C u k'] (hu' : k'.d = .str) [he : TyIs C e ke] (he' : ke.d = .int .u8) (hx : lookO l x = some v) (hs : v.isStr = false)
    (hw : elems G v = some ys) (hb : bytesOf ys = some bs) : OpV C id l G nx df pk (.convert t u x) (.imm (.str ⟨bs.toArray⟩)) [] := by
  refine O.of fun t' L hA => ?_
  simp only [opA, hA.ev hx, aConvert, hk.is, hu.is, hu']
  split
  · rename_i heq; cases heq
  · cases hs
  · simp only [ht, he.is, he', hw, hb]
  · simp_all
end Go.Abs
