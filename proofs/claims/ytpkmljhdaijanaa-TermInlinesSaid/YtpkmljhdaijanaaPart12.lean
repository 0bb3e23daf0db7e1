/- The abstract interpreter: a logic of what code comes to: slices that grow where the order is drawn; structs that hold slices. -/
import Derived.Test.YtpkmljhdaijanaaPart11
namespace Go.Abs
variable {C : Cfg} {fid nt : Nat} {l : Env} {G G' : Nat → Obj} {nx : Nat} {df : List (AV × List AV)} {pk : Pk} {Φ Φ' : Out → Prop} {a b : Code} {ol r : List Oper} {base i d : Nat} {ty : TypeId} {pos : String} {af : Array Edge} {v : AV} {id : Nat}

theorem O.max {x y : Operand} {t u : TypeId} {m n : Int} {k : IntKind} (hx : lookO l x = some (.imm (.int k m))) (hy : lookO l y = some (.imm (.int k n))) : OpV C id l G nx df pk (.call { callee := .builtin .max, args := #[x, y], argTypes := #[t, u] }) (.imm (.int k (if n > m then n else m))) [] :=
  O.of fun t' L hA => by simp only [opA, List.map_cons, List.map_nil, hA.ev hx, hA.ev hy, aBuiltin]

/-- append of one element to a slice of the call's own, where the order is drawn. -/
theorem D.app1 {x y : Operand} {t u e e' lo hi q sz sz' : Nat} {k ke : TyI} {xs : List IV} {z : IV} {fr : Bool} {fs : List Fp} {G0 : Nat → Obj} (ho : Own e sz lo hi xs G0 v) (hq : G q = .row e' sz' [.imm z] fr) [hk : TyIs C t k] (hm : xs.length + 1 ≤ most)
    (next : ∀ v' G' rd o', Own e sz lo nx (xs ++ [z]) G' v' → (∀ o, o < lo → G' o = G o) → lo ≤ o' → D C nt ol base (i + 1) r ((d, v') :: l) G' nx df pk (⟨i, rd, [o'], []⟩ :: fs) Φ)
    (ht : k.d = .sl e := by exact rfl) (he : TyIs C e ke := by infer_instance) (hsz : sz = ke.sz := by exact rfl) (hu : Nat.beq t u = true := by exact rfl) (hx : lookO l x = some v := by exact rfl) (hy : lookO l y = some (.row q 1) := by exact rfl)
    (hG : ∀ o, lo ≤ o → o < hi → G o = G0 o := by intro o _ _; exact at_upd) (hf : (AV.imm z).fits sz = true := by first | exact rfl | assumption) (hs : 0 < ke.sz := by decide) (hb : ke.bytes ≤ 4096 := by decide) (hz : ke.zero.fits ke.sz = true := by exact rfl) (hid : lo ≤ base + i ∧ base + i < nx := by omega)
    (hhi : hi ≤ nx := by omega) (hd : Nat.ble (d + 1) nt = true := by exact rfl) :
    D C nt ol base i (⟨some d, .call { callee := .builtin .append, args := #[x, y], argTypes := #[t, u] }, ty, pos, af, none⟩ :: r) l G nx df pk fs Φ := by
  subst hsz
  have hrd : rdE l G (.call { callee := .builtin .append, args := #[x, y], argTypes := #[t, u] }) = some ([v, .row q 1].flatMap direct) := by
    simp only [rdE, pureOp, looks, hx, hy]
  have hys : ([z].map AV.imm).all (AV.fits ke.sz) = true := by simp [hf]
  have hw : elems G (.row q 1) = some ([z].map AV.imm) := elems_row hq rfl
  rcases ho with ⟨rfl, rfl⟩ | ⟨o, h1, h2, rfl, hG2⟩
  · refine D.op1 (O.appNil (hk := hk) (he := he) ht hu hx hy hw hs hb hz hys (by simp [most])) hrd hd (next _ _ _ _ (.inr ⟨base + i, hid.1, hid.2, by simp, by rw [upd_same]; simp⟩) (fun o ho => upd_ne _ _ _ _ (by omega)) hid.1)
  · refine D.op1 (O.appRow (hk := hk) (he := he) ht hu hx ((hG o h1 h2).trans hG2) (by simp) hy hw hs hb hz hys (by simpa using hm)) hrd hd (next _ _ _ _ (.inr ⟨o, h1, by omega, by simp, by rw [upd_same]; simp⟩) (fun o' ho' => upd_ne _ _ _ _ (by omega)) h1)

theorem All2.nil {α β : Type} {R : α → β → Prop} : All2 R [] [] := trivial
theorem All2.cons {α β : Type} {R : α → β → Prop} {x : α} {y : β} {l : List α} {m : List β} (h : R x y) (hr : All2 R l m) : All2 R (x :: l) (y :: m) := ⟨h, hr⟩
theorem Rdx.agg {d : Nat} {P : Nat → Prop} {vs : List AV} {xs : List IV} (h : All2 (Rdx d G P) vs xs) : Rdx (d + 1) G P (.agg vs) (.agg xs) := by
  obtain ⟨ids, h1, h2⟩ := h.peekL
  refine ⟨ids, fun k => ?_, h2⟩
  show Go.Abs.peek G (k + d + 1) _ = _
  unfold Go.Abs.peek
  rw [h1 k]
theorem Rdx.tup {d : Nat} {P : Nat → Prop} {vs : List AV} {xs : List IV} (h : All2 (Rdx d G P) vs xs) : Rdx (d + 1) G P (.tup vs) (.tup xs) := by
  obtain ⟨ids, h1, h2⟩ := h.peekL
  refine ⟨ids, fun k => ?_, h2⟩
  show Go.Abs.peek G (k + d + 1) _ = _
  unfold Go.Abs.peek
  rw [h1 k]
theorem Rdx.up {d : Nat} {P : Nat → Prop} {v : AV} {x : IV} (h : Rdx d G P v x) : Rdx (d + 1) G P v x := by
  obtain ⟨ids, h1, h2⟩ := h
  exact ⟨ids, fun k => by have := h1 (k + 1); rwa [Nat.add_right_comm] at this, h2⟩
theorem Own.notImm {e sz lo hi : Nat} {xs : List IV} {v : AV} (h : Own e sz lo hi xs G v) : ∀ x, v ≠ .imm x := by
  rcases h with ⟨_, rfl⟩ | ⟨o, _, _, rfl, _⟩ <;> (intro x h; cases h)
theorem allImm_none : ∀ {cs : List AV}, (∃ v ∈ cs, ∀ x, v ≠ .imm x) → allImm cs = none
  | [], h => by obtain ⟨v, hv, _⟩ := h; cases hv
  | c :: r, h => by
    obtain ⟨v, hv, hn⟩ := h
    cases c with
    | imm x =>
      have hr : v ∈ r := by
        rcases List.mem_cons.1 hv with h | h
        · exact absurd h (hn x)
        · exact h
      unfold allImm
      rw [allImm_none ⟨v, hr, hn⟩]; rfl
    | _ => rfl
theorem mkAgg_not {cs : List AV} (h : ∃ v ∈ cs, ∀ x, v ≠ .imm x) : mkAgg cs = .agg cs := by
  unfold mkAgg
  rw [allImm_none h]

theorem Own.cells1 {e sz lo hi : Nat} {xs : List IV} {v : AV} (h : Own e sz lo hi xs G v) : v.cells = [v] := by
  rcases h with ⟨_, rfl⟩ | ⟨o, _, _, rfl, _⟩ <;> rfl
theorem Own.one1 {e sz lo hi : Nat} {xs : List IV} {v : AV} (h : Own e sz lo hi xs G v) : v.one = true := by
  rcases h with ⟨_, rfl⟩ | ⟨o, _, _, rfl, _⟩ <;> rfl
/-- A store of one cell. -/
theorem O.storeP1 {a x : Operand} {t : TypeId} {k : TyI} {o off : Nat} {cs cs' : List AV} [hk : TyIs C t k] (hs : k.sz = 1) (ha : lookO l a = some (.ptr o off)) (hx : lookO l x = some v) (hc : v.cells = [v]) (h1 : v.one = true) (hG : G o = .box cs false) (hn : Nat.ble (off + 1) cs.length = true) (hcs : splice cs off [v] = cs') :
    OpV C id l G nx df pk (.store t a x) .undef [(o, .set (.box cs' false))] :=
  O.storeP ha hx (by unfold AV.fits; rw [hc, hs]; simp [h1]) hG (by rw [hs]; exact hn) (by rw [hc]; exact hcs)

/-! ### regions that draw their order: addresses told apart -/
def Fp.ren (g : Nat → Nat) (f : Fp) : Fp := ⟨f.i, f.rd.map g, f.wr.map g, f.fz.map g⟩
def fpAddrs (fs : List Fp) : List Nat := fs.flatMap fun f => f.rd ++ f.wr ++ f.fz
def fpWrs (fs : List Fp) : List Nat := fs.flatMap (·.wr)
theorem ren_mem {g : Nat → Nat} {w : Nat} {l : List Nat} (h : ∀ x ∈ l, g w = g x → w = x) : (l.map g).contains (g w) = l.contains w := by
  rw [Bool.eq_iff_iff]
  simp only [List.contains_iff_mem, List.mem_map]
  constructor
  · rintro ⟨x, hx, he⟩
    rw [h x hx he.symm]; exact hx
  · intro hw; exact ⟨w, hw, rfl⟩
theorem any_ren {g : Nat → Nat} {f f' : Nat → Bool} : ∀ {l : List Nat}, (∀ w ∈ l, f' (g w) = f w) → (l.map g).any f' = l.any f
  | [], _ => rfl
  | w :: r, h => by
    rw [List.map_cons, List.any_cons, List.any_cons, h w (by simp), any_ren (l := r) fun x hx => h x (by simp [hx])]
theorem clash_ren {g : Nat → Nat} {a b : Fp} (hg : ∀ w ∈ a.wr ++ b.wr, ∀ x ∈ a.rd ++ a.wr ++ a.fz ++ (b.rd ++ b.wr ++ b.fz), g w = g x → w = x) : clash (a.ren g) (b.ren g) = clash a b := by
  unfold clash
  congr 1
  · refine any_ren fun w hw => ?_
    have := fun x hx => hg w (by simp [hw]) x hx
    simp only [Fp.ren]
    rw [ren_mem fun x hx => this x (by simp [hx]), ren_mem fun x hx => this x (by simp [hx]), ren_mem fun x hx => this x (by simp [hx])]
  · refine any_ren fun w hw => ?_
    have := fun x hx => hg w (by simp [hw]) x hx
    simp only [Fp.ren]
    rw [ren_mem fun x hx => this x (by simp [hx]), ren_mem fun x hx => this x (by simp [hx])]
theorem clearOf_ren {ops : Array Oper} {g : Nat → Nat} {a : Fp} : ∀ {fs : List Fp}, (∀ w ∈ fpWrs (a :: fs), ∀ x ∈ fpAddrs (a :: fs), g w = g x → w = x) → clearOf ops (a.ren g) (fs.map (Fp.ren g)) = clearOf ops a fs
  | [], _ => rfl
  | b :: r, h => by
    simp only [List.map_cons, clearOf]
    rw [clash_ren fun w hw x hx => h w (by simp [fpWrs] at hw ⊢; rcases hw with h | h <;> simp [h]) x (by simp [fpAddrs] at hx ⊢; rcases hx with h | h | h | h | h | h <;> simp [h]),
      clearOf_ren fun w hw x hx => h w (by simp [fpWrs] at hw ⊢; rcases hw with h | h; simp [h]; exact .inr (.inr h)) x (by simp [fpAddrs] at hx ⊢; rcases hx with h | h | h | h; simp [h]; simp [h]; simp [h]; exact .inr (.inr (.inr (.inr (.inr (.inr h))))))]
    rfl
theorem drawOK_ren {ops : Array Oper} {g : Nat → Nat} : ∀ {fs : List Fp}, (∀ w ∈ fpWrs fs, ∀ x ∈ fpAddrs fs, g w = g x → w = x) → drawOK ops (fs.map (Fp.ren g)) = drawOK ops fs
  | [], _ => rfl
  | a :: r, h => by
    simp only [List.map_cons, drawOK]
    rw [clearOf_ren h, drawOK_ren fun w hw x hx => h w (by simp [fpWrs] at hw ⊢; exact .inr hw) x (by simp [fpAddrs] at hx ⊢; exact .inr (.inr (.inr hx)))]
/-- The end of a region that draws its order: its footprints at small addresses, and what these stand for. -/
theorem D.doneG {fs : List Fp} (g : Nat → Nat) (fs0 : List Fp) (hfs : fs.reverse = fs0.map (Fp.ren g)) (hg : ∀ w ∈ fpWrs fs0, ∀ x ∈ fpAddrs fs0, g w = g x → w = x) (hk : (drawOK ⟨ol⟩ fs0 && edgesOK ⟨ol⟩) = true) (h : W C fid nt b l G nx df pk Φ) : D C nt ol base i [] l G nx df pk fs (aft C fid nt b Φ) :=
  D.done (by rw [hfs, drawOK_ren hg]; exact hk) h
def g4 (a b c d : Nat) (k : Nat) : Nat := if k = 1 then a else if k = 2 then b else if k = 3 then c else d
theorem g4_inj {a b c d : Nat} (h : (a ≠ b ∧ a ≠ c ∧ a ≠ d) ∧ (b ≠ c ∧ b ≠ d) ∧ c ≠ d) {w x : Nat} (hw : 1 ≤ w ∧ w ≤ 4) (hx : 1 ≤ x ∧ x ≤ 4) (he : g4 a b c d w = g4 a b c d x) : w = x := by
  have hw' : w = 1 ∨ w = 2 ∨ w = 3 ∨ w = 4 := by omega
  have hx' : x = 1 ∨ x = 2 ∨ x = 3 ∨ x = 4 := by omega
  unfold g4 at he
  rcases hw' with rfl | rfl | rfl | rfl <;> rcases hx' with rfl | rfl | rfl | rfl <;> simp at he ⊢ <;> omega
/-- The same, with four addresses. -/
theorem D.done4 {fs : List Fp} (a' b' c' d' : Nat) (hd : (a' ≠ b' ∧ a' ≠ c' ∧ a' ≠ d') ∧ (b' ≠ c' ∧ b' ≠ d') ∧ c' ≠ d') (fs0 : List Fp) (hfs : fs.reverse = fs0.map (Fp.ren (g4 a' b' c' d'))) (hb : ((fpWrs fs0).all fun w => decide (1 ≤ w) && decide (w ≤ 4)) = true) (hb2 : ((fpAddrs fs0).all fun w => decide (1 ≤ w) && decide (w ≤ 4)) = true)
    (hk : (drawOK ⟨ol⟩ fs0 && edgesOK ⟨ol⟩) = true) (h : W C fid nt b l G nx df pk Φ) : D C nt ol base i [] l G nx df pk fs (aft C fid nt b Φ) :=
  D.doneG _ fs0 hfs (fun w hw x hx he => by
    have h1 := List.all_eq_true.1 hb w hw
    have h2 := List.all_eq_true.1 hb2 x hx
    simp only [Bool.and_eq_true, decide_eq_true_eq] at h1 h2
    exact g4_inj hd h1 h2 he) hk h
theorem D.skip4 {fs : List Fp} (a' b' c' d' : Nat) (hd : (a' ≠ b' ∧ a' ≠ c' ∧ a' ≠ d') ∧ (b' ≠ c' ∧ b' ≠ d') ∧ c' ≠ d') (fs0 : List Fp) (hfs : fs.reverse = fs0.map (Fp.ren (g4 a' b' c' d'))) (hb : ((fpWrs fs0).all fun w => decide (1 ≤ w) && decide (w ≤ 4)) = true) (hb2 : ((fpAddrs fs0).all fun w => decide (1 ≤ w) && decide (w ≤ 4)) = true)
    (hk : (drawOK ⟨ol⟩ fs0 && edgesOK ⟨ol⟩) = true) (h : W C 0 nt .skip l G nx df pk Φ) : D C nt ol base i [] l G nx df pk fs Φ :=
  D.skip (by
    rw [hfs, drawOK_ren fun w hw x hx he => ?_]
    · exact hk
    · have h1 := List.all_eq_true.1 hb w hw
      have h2 := List.all_eq_true.1 hb2 x hx
      simp only [Bool.and_eq_true, decide_eq_true_eq] at h1 h2
      exact g4_inj hd h1 h2 he) h
/-- A store of a struct to an element of a row. -/
theorem O.storeRS {a x : Operand} {t et sz : TypeId} {k : TyI} {o m n : Nat} {vs : List AV} {u w : AV} [hk : TyIs C t k] (h0 : 0 < k.sz) (ha : lookO l a = some (.rptr o m n 0)) (hx : lookO l x = some v) (hf : v.fits k.sz = true) (hG : G o = .row et sz vs false) (hm : vs.length = m) (hu : vs[n]? = some u) (huc : Nat.ble k.sz u.cells.length = true) (hv : avOf u (splice u.cells 0 v.cells) = w) :
    OpV C id l G nx df pk (.store t a x) .undef [(o, .set (.row et sz (vs.set n w) false))] :=
  O.of fun t' L hA => by
    simp only [opA, hA.ev ha, hA.ev hx, aStore, hk.is, hf, if_true, hG, hu]
    rw [if_pos ⟨hm, h0, by have := Nat.le_of_ble_eq_true huc; omega⟩, hv]
/-- A call of a function that has a contract, and gives a slice of the caller's own. -/
theorem O.callOwn {f : FuncId} {ar : List Operand} {ats : Array TypeId} {vs : List AV} {ivs : List IV} {ids : List Nat} {et sz : Nat} {xs : List IV} (hb : C.byref f = false) (ho : C.orc f ivs = some (.own et sz xs)) (ha : looks l ar = some vs) (hi : peeks G vs = some (ivs, ids)) :
    OpV C id l G nx df pk (.call { callee := .value (.func f), args := ⟨ar⟩, argTypes := ats }) (.row id xs.length) (frz ids ++ [(id, .set (.row et sz (xs.map .imm) false))]) := by
  refine O.of fun t L ht => ?_
  simp only [opA, ev, aCall, fnOf, List.map_nil, List.append_nil, callA, hb, Bool.false_eq_true, if_false, ht.evs ha, hi, ho]
theorem O.callOwnI {f : FuncId} {ar : List Operand} {ats : Array TypeId} {vs : List AV} {ivs : List IV} {et sz : Nat} {xs : List IV} (hb : C.byref f = false) (ho : C.orc f ivs = some (.own et sz xs)) (ha : looks l ar = some vs) (hi : imms vs = some ivs) :
    OpV C id l G nx df pk (.call { callee := .value (.func f), args := ⟨ar⟩, argTypes := ats }) (.row id xs.length) [(id, .set (.row et sz (xs.map .imm) false))] :=
  O.callOwn (ids := []) hb ho ha (by rw [imms_eq hi]; exact peeks_imm G ivs)
theorem peek_mpx {q : Nat} {ks vs : List IV} {fr : Bool} (h : G q = .mp ks (vs.map .imm) fr) : Go.Abs.peek G pkDepth (.map q) = some (.fmp ks vs, [q]) := by
  have hp : ∀ x, Go.Abs.peek G 99 (.imm x) = some (x, []) := fun x => rfl
  show Go.Abs.peek G (99 + 1) _ = _
  unfold Go.Abs.peek
  rw [h]
  dsimp only
  rw [peekL_imm hp]
/-- What was frozen, and one thing more. -/
theorem updL_frz1 {q id o : Nat} {x : Obj} : updL G (frz [q] ++ [(id, .set x)]) o = if o = id then x else if o = q then (G q).freeze else G o := by
  show upd (upd G q (Obj.freeze (G q))) id x o = _
  unfold upd
  rfl
end Go.Abs

/- One step of the logic after the other, as far as it goes, with memory. -/
open Go Go.Abs
namespace Go.Abs
set_option maxRecDepth 100000
/-- As far as it goes, but not into a block. -/
theorem AB {P Q : Prop} (k : Q) (h : Hold Q → P := by
  intro k
  (repeat (first | (apply R.op0; (first | exact O.move rfl | exact O.assign rfl | exact O.fieldP rfl rfl rfl rfl | exact O.loadP rfl rfl rfl (by first | exact rfl | with_reducible assumption | assumption | exact at_upd) rfl | exact O.cmp rfl rfl rfl | exact O.int rfl rfl (add64 (by omega)) | exact O.int rfl rfl (sub64 (by omega)) | exact O.int rfl rfl (add8 (by omega)) | exact O.pickT rfl (by first | with_reducible rfl | with_reducible assumption | decide) rfl | exact O.pickF rfl (by first | with_reducible rfl | with_reducible assumption | decide) rfl | exact O.lenL rfl rfl | exact O.lenSv rfl rfl | exact O.lenS rfl rfl | exact O.not rfl | exact O.svEq rfl rfl | exact O.svNe rfl rfl | exact O.str rfl rfl rfl | exact O.boolEq rfl rfl rfl | exact O.boolNe rfl rfl rfl | exact O.fieldE rfl rfl rfl rfl | exact O.fieldR rfl rfl rfl rfl | exact O.loadPA rfl rfl (by first | exact rfl | with_reducible assumption | assumption | exact at_upd) rfl rfl | exact O.extr rfl rfl | exact O.nilP rfl | exact O.nilF rfl | exact O.extrT rfl rfl | exact O.makeFunc rfl rfl rfl | exact O.fieldF rfl rfl rfl rfl | exact O.loadF rfl rfl rfl rfl | exact O.loadFA rfl rfl rfl | exact O.ptrEq rfl rfl rfl rfl | exact O.ptrNe rfl rfl rfl rfl | exact O.max rfl rfl | (apply O.addrX; exact rfl; infer_instance; exact rfl; exact rfl; omega; (first | with_reducible assumption | assumption); (first | exact rfl | assumption)) | (apply O.load1; exact rfl; (first | with_reducible assumption | assumption); exact rfl; exact rfl; exact rfl) | (apply O.loadE; exact rfl; exact rfl; exact rfl; (first | with_reducible assumption | assumption); exact rfl) | (apply O.loadEA; exact rfl; exact rfl; (first | with_reducible assumption | assumption); exact rfl) | (apply O.call; exact rfl; exact rfl; (first | with_reducible assumption | assumption)) | (apply O.addrRX; exact rfl; infer_instance; exact rfl; exact rfl; (first | with_reducible assumption | assumption); (first | exact rfl | assumption); omega; exact rfl) | (apply O.loadRX; exact rfl; (first | with_reducible assumption | assumption); (first | exact rfl | assumption); (first | with_reducible assumption | assumption); exact rfl; exact rfl; exact rfl) | (apply O.lenO; exact rfl; exact rfl; (first | with_reducible assumption | assumption)) | (apply O.build; exact rfl; exact rfl; exact rfl; exact rfl) | (apply O.callV; exact rfl; infer_instance; exact rfl; exact rfl; (first | with_reducible assumption | assumption)) | (apply O.lookA; exact rfl; infer_instance; infer_instance; exact rfl; exact rfl; exact rfl; (first | with_reducible assumption | assumption))); exact rfl) | (apply R.op1; (first | exact O.boxS rfl rfl rfl | exact O.alloc rfl rfl | exact O.makeMap | (apply O.buildX; exact rfl; infer_instance; exact rfl; exact rfl; decide; exact rfl; exact rfl; decide)); exact rfl) | (apply R.opN1; (first | (apply O.storeP; exact rfl; exact rfl; exact rfl; (first | exact rfl | with_reducible assumption | assumption | exact at_upd); exact rfl; exact rfl) | (apply O.storeP1; exact rfl; exact rfl; exact rfl; assumption; assumption; (first | exact rfl | with_reducible assumption | assumption | exact at_upd); exact rfl; exact rfl))) | (apply R.guardT1; exact rfl; exact rfl; (first | with_reducible rfl | with_reducible assumption | decide)) | (apply R.guardT0; exact rfl; exact rfl; (first | with_reducible rfl | with_reducible assumption | decide)) | (apply R.guardF1; exact rfl; exact rfl; (first | with_reducible rfl | with_reducible assumption | decide); exact rfl) | (apply R.guardF0; exact rfl; exact rfl; (first | with_reducible rfl | with_reducible assumption | decide); exact rfl) | (apply R.guardN; exact rfl; exact rfl; exact rfl) | apply R.done | (first | apply W.seqR | apply W.seqC) | apply W.regionN | apply W.drawN | (apply W.condT; exact rfl; (first | with_reducible rfl | with_reducible assumption | decide)) | (apply W.condF; exact rfl; (first | with_reducible rfl | with_reducible assumption | decide)) | apply W.retAft | apply W.retBlk | apply W.retLop | apply W.exitAft | apply W.exitLop | apply W.exitBlk | (apply W.exitBlkNe; exact rfl) | apply W.skipAft | apply W.skipBlk | apply W.retCut | apply W.exitCut | apply R.skip | (apply D.op0; (first | exact O.move rfl | exact O.assign rfl | exact O.fieldP rfl rfl rfl rfl | exact O.loadP rfl rfl rfl (by first | exact rfl | with_reducible assumption | assumption | exact at_upd) rfl | exact O.cmp rfl rfl rfl | exact O.int rfl rfl (add64 (by omega)) | exact O.int rfl rfl (sub64 (by omega)) | exact O.int rfl rfl (add8 (by omega)) | exact O.pickT rfl (by first | with_reducible rfl | with_reducible assumption | decide) rfl | exact O.pickF rfl (by first | with_reducible rfl | with_reducible assumption | decide) rfl | exact O.lenL rfl rfl | exact O.lenSv rfl rfl | exact O.lenS rfl rfl | exact O.not rfl | exact O.svEq rfl rfl | exact O.svNe rfl rfl | exact O.str rfl rfl rfl | exact O.boolEq rfl rfl rfl | exact O.boolNe rfl rfl rfl | exact O.fieldE rfl rfl rfl rfl | exact O.fieldR rfl rfl rfl rfl | exact O.loadPA rfl rfl (by first | exact rfl | with_reducible assumption | assumption | exact at_upd) rfl rfl | exact O.extr rfl rfl | exact O.nilP rfl | exact O.nilF rfl | exact O.extrT rfl rfl | exact O.makeFunc rfl rfl rfl | exact O.fieldF rfl rfl rfl rfl | exact O.loadF rfl rfl rfl rfl | exact O.loadFA rfl rfl rfl | exact O.ptrEq rfl rfl rfl rfl | exact O.ptrNe rfl rfl rfl rfl | exact O.max rfl rfl | (apply O.addrX; exact rfl; infer_instance; exact rfl; exact rfl; omega; (first | with_reducible assumption | assumption); (first | exact rfl | assumption)) | (apply O.load1; exact rfl; (first | with_reducible assumption | assumption); exact rfl; exact rfl; exact rfl) | (apply O.loadE; exact rfl; exact rfl; exact rfl; (first | with_reducible assumption | assumption); exact rfl) | (apply O.loadEA; exact rfl; exact rfl; (first | with_reducible assumption | assumption); exact rfl) | (apply O.call; exact rfl; exact rfl; (first | with_reducible assumption | assumption)) | (apply O.addrRX; exact rfl; infer_instance; exact rfl; exact rfl; (first | with_reducible assumption | assumption); (first | exact rfl | assumption); omega; exact rfl) | (apply O.loadRX; exact rfl; (first | with_reducible assumption | assumption); (first | exact rfl | assumption); (first | with_reducible assumption | assumption); exact rfl; exact rfl; exact rfl) | (apply O.lenO; exact rfl; exact rfl; (first | with_reducible assumption | assumption)) | (apply O.build; exact rfl; exact rfl; exact rfl; exact rfl) | (apply O.callV; exact rfl; infer_instance; exact rfl; exact rfl; (first | with_reducible assumption | assumption)) | (apply O.lookA; exact rfl; infer_instance; infer_instance; exact rfl; exact rfl; exact rfl; (first | with_reducible assumption | assumption))); exact rfl; exact rfl) | (apply D.op1; (first | exact O.boxS rfl rfl rfl | exact O.alloc rfl rfl | exact O.makeMap | (apply O.buildX; exact rfl; infer_instance; exact rfl; exact rfl; decide; exact rfl; exact rfl; decide)); exact rfl; exact rfl) | (apply D.opN1; (first | (apply O.storeP; exact rfl; exact rfl; exact rfl; (first | exact rfl | with_reducible assumption | assumption | exact at_upd); exact rfl; exact rfl) | (apply O.storeP1; exact rfl; exact rfl; exact rfl; assumption; assumption; (first | exact rfl | with_reducible assumption | assumption | exact at_upd); exact rfl; exact rfl)); exact rfl) | (apply D.guardT1; exact rfl; exact rfl; (first | with_reducible rfl | with_reducible assumption | decide)) | (apply D.guardT0; exact rfl; exact rfl; (first | with_reducible rfl | with_reducible assumption | decide)) | (apply D.guardF1; exact rfl; exact rfl; (first | with_reducible rfl | with_reducible assumption | decide); exact rfl) | (apply D.guardF0; exact rfl; exact rfl; (first | with_reducible rfl | with_reducible assumption | decide); exact rfl) | (apply D.guardN; exact rfl; exact rfl; exact rfl) | (apply D.done; kernel_rfl) | (apply D.skip; kernel_rfl)))
  exact Hold.out k) : P := h ⟨k⟩
/-- As far as it goes. -/
theorem AA {P Q : Prop} (k : Q) (h : Hold Q → P := by
  intro k
  (repeat (first | (apply R.op0; (first | exact O.move rfl | exact O.assign rfl | exact O.fieldP rfl rfl rfl rfl | exact O.loadP rfl rfl rfl (by first | exact rfl | with_reducible assumption | assumption | exact at_upd) rfl | exact O.cmp rfl rfl rfl | exact O.int rfl rfl (add64 (by omega)) | exact O.int rfl rfl (sub64 (by omega)) | exact O.int rfl rfl (add8 (by omega)) | exact O.pickT rfl (by first | with_reducible rfl | with_reducible assumption | decide) rfl | exact O.pickF rfl (by first | with_reducible rfl | with_reducible assumption | decide) rfl | exact O.lenL rfl rfl | exact O.lenSv rfl rfl | exact O.lenS rfl rfl | exact O.not rfl | exact O.svEq rfl rfl | exact O.svNe rfl rfl | exact O.str rfl rfl rfl | exact O.boolEq rfl rfl rfl | exact O.boolNe rfl rfl rfl | exact O.fieldE rfl rfl rfl rfl | exact O.fieldR rfl rfl rfl rfl | exact O.loadPA rfl rfl (by first | exact rfl | with_reducible assumption | assumption | exact at_upd) rfl rfl | exact O.extr rfl rfl | exact O.nilP rfl | exact O.nilF rfl | exact O.extrT rfl rfl | exact O.makeFunc rfl rfl rfl | exact O.fieldF rfl rfl rfl rfl | exact O.loadF rfl rfl rfl rfl | exact O.loadFA rfl rfl rfl | exact O.ptrEq rfl rfl rfl rfl | exact O.ptrNe rfl rfl rfl rfl | exact O.max rfl rfl | (apply O.addrX; exact rfl; infer_instance; exact rfl; exact rfl; omega; (first | with_reducible assumption | assumption); (first | exact rfl | assumption)) | (apply O.load1; exact rfl; (first | with_reducible assumption | assumption); exact rfl; exact rfl; exact rfl) | (apply O.loadE; exact rfl; exact rfl; exact rfl; (first | with_reducible assumption | assumption); exact rfl) | (apply O.loadEA; exact rfl; exact rfl; (first | with_reducible assumption | assumption); exact rfl) | (apply O.call; exact rfl; exact rfl; (first | with_reducible assumption | assumption)) | (apply O.addrRX; exact rfl; infer_instance; exact rfl; exact rfl; (first | with_reducible assumption | assumption); (first | exact rfl | assumption); omega; exact rfl) | (apply O.loadRX; exact rfl; (first | with_reducible assumption | assumption); (first | exact rfl | assumption); (first | with_reducible assumption | assumption); exact rfl; exact rfl; exact rfl) | (apply O.lenO; exact rfl; exact rfl; (first | with_reducible assumption | assumption)) | (apply O.build; exact rfl; exact rfl; exact rfl; exact rfl) | (apply O.callV; exact rfl; infer_instance; exact rfl; exact rfl; (first | with_reducible assumption | assumption)) | (apply O.lookA; exact rfl; infer_instance; infer_instance; exact rfl; exact rfl; exact rfl; (first | with_reducible assumption | assumption))); exact rfl) | (apply R.op1; (first | exact O.boxS rfl rfl rfl | exact O.alloc rfl rfl | exact O.makeMap | (apply O.buildX; exact rfl; infer_instance; exact rfl; exact rfl; decide; exact rfl; exact rfl; decide)); exact rfl) | (apply R.opN1; (first | (apply O.storeP; exact rfl; exact rfl; exact rfl; (first | exact rfl | with_reducible assumption | assumption | exact at_upd); exact rfl; exact rfl) | (apply O.storeP1; exact rfl; exact rfl; exact rfl; assumption; assumption; (first | exact rfl | with_reducible assumption | assumption | exact at_upd); exact rfl; exact rfl))) | (apply R.guardT1; exact rfl; exact rfl; (first | with_reducible rfl | with_reducible assumption | decide)) | (apply R.guardT0; exact rfl; exact rfl; (first | with_reducible rfl | with_reducible assumption | decide)) | (apply R.guardF1; exact rfl; exact rfl; (first | with_reducible rfl | with_reducible assumption | decide); exact rfl) | (apply R.guardF0; exact rfl; exact rfl; (first | with_reducible rfl | with_reducible assumption | decide); exact rfl) | (apply R.guardN; exact rfl; exact rfl; exact rfl) | apply R.done | apply W.seq | apply W.regionN | apply W.drawN | apply W.block | (apply W.condT; exact rfl; (first | with_reducible rfl | with_reducible assumption | decide)) | (apply W.condF; exact rfl; (first | with_reducible rfl | with_reducible assumption | decide)) | apply W.retAft | apply W.retBlk | apply W.retLop | apply W.exitAft | apply W.exitLop | apply W.exitBlk | (apply W.exitBlkNe; exact rfl) | apply W.skipAft | apply W.skipBlk | apply W.retCut | apply W.exitCut | apply R.skip | (apply D.op0; (first | exact O.move rfl | exact O.assign rfl | exact O.fieldP rfl rfl rfl rfl | exact O.loadP rfl rfl rfl (by first | exact rfl | with_reducible assumption | assumption | exact at_upd) rfl | exact O.cmp rfl rfl rfl | exact O.int rfl rfl (add64 (by omega)) | exact O.int rfl rfl (sub64 (by omega)) | exact O.int rfl rfl (add8 (by omega)) | exact O.pickT rfl (by first | with_reducible rfl | with_reducible assumption | decide) rfl | exact O.pickF rfl (by first | with_reducible rfl | with_reducible assumption | decide) rfl | exact O.lenL rfl rfl | exact O.lenSv rfl rfl | exact O.lenS rfl rfl | exact O.not rfl | exact O.svEq rfl rfl | exact O.svNe rfl rfl | exact O.str rfl rfl rfl | exact O.boolEq rfl rfl rfl | exact O.boolNe rfl rfl rfl | exact O.fieldE rfl rfl rfl rfl | exact O.fieldR rfl rfl rfl rfl | exact O.loadPA rfl rfl (by first | exact rfl | with_reducible assumption | assumption | exact at_upd) rfl rfl | exact O.extr rfl rfl | exact O.nilP rfl | exact O.nilF rfl | exact O.extrT rfl rfl | exact O.makeFunc rfl rfl rfl | exact O.fieldF rfl rfl rfl rfl | exact O.loadF rfl rfl rfl rfl | exact O.loadFA rfl rfl rfl | exact O.ptrEq rfl rfl rfl rfl | exact O.ptrNe rfl rfl rfl rfl | exact O.max rfl rfl | (apply O.addrX; exact rfl; infer_instance; exact rfl; exact rfl; omega; (first | with_reducible assumption | assumption); (first | exact rfl | assumption)) | (apply O.load1; exact rfl; (first | with_reducible assumption | assumption); exact rfl; exact rfl; exact rfl) | (apply O.loadE; exact rfl; exact rfl; exact rfl; (first | with_reducible assumption | assumption); exact rfl) | (apply O.loadEA; exact rfl; exact rfl; (first | with_reducible assumption | assumption); exact rfl) | (apply O.call; exact rfl; exact rfl; (first | with_reducible assumption | assumption)) | (apply O.addrRX; exact rfl; infer_instance; exact rfl; exact rfl; (first | with_reducible assumption | assumption); (first | exact rfl | assumption); omega; exact rfl) | (apply O.loadRX; exact rfl; (first | with_reducible assumption | assumption); (first | exact rfl | assumption); (first | with_reducible assumption | assumption); exact rfl; exact rfl; exact rfl) | (apply O.lenO; exact rfl; exact rfl; (first | with_reducible assumption | assumption)) | (apply O.build; exact rfl; exact rfl; exact rfl; exact rfl) | (apply O.callV; exact rfl; infer_instance; exact rfl; exact rfl; (first | with_reducible assumption | assumption)) | (apply O.lookA; exact rfl; infer_instance; infer_instance; exact rfl; exact rfl; exact rfl; (first | with_reducible assumption | assumption))); exact rfl; exact rfl) | (apply D.op1; (first | exact O.boxS rfl rfl rfl | exact O.alloc rfl rfl | exact O.makeMap | (apply O.buildX; exact rfl; infer_instance; exact rfl; exact rfl; decide; exact rfl; exact rfl; decide)); exact rfl; exact rfl) | (apply D.opN1; (first | (apply O.storeP; exact rfl; exact rfl; exact rfl; (first | exact rfl | with_reducible assumption | assumption | exact at_upd); exact rfl; exact rfl) | (apply O.storeP1; exact rfl; exact rfl; exact rfl; assumption; assumption; (first | exact rfl | with_reducible assumption | assumption | exact at_upd); exact rfl; exact rfl)); exact rfl) | (apply D.guardT1; exact rfl; exact rfl; (first | with_reducible rfl | with_reducible assumption | decide)) | (apply D.guardT0; exact rfl; exact rfl; (first | with_reducible rfl | with_reducible assumption | decide)) | (apply D.guardF1; exact rfl; exact rfl; (first | with_reducible rfl | with_reducible assumption | decide); exact rfl) | (apply D.guardF0; exact rfl; exact rfl; (first | with_reducible rfl | with_reducible assumption | decide); exact rfl) | (apply D.guardN; exact rfl; exact rfl; exact rfl) | (apply D.done; kernel_rfl) | (apply D.skip; kernel_rfl)))
  exact Hold.out k) : P := h ⟨k⟩
/-- As far as it goes, at addresses that are not known. -/
theorem AN {P Q : Prop} (k : Q) (h : Hold Q → P := by
  intro k
  (repeat (first | (apply R.op0; (first | exact O.move rfl | exact O.assign rfl | exact O.fieldP rfl rfl rfl rfl | exact O.loadP rfl rfl rfl (by first | exact rfl | with_reducible assumption | assumption | exact at_upd) rfl | exact O.cmp rfl rfl rfl | exact O.int rfl rfl (add64 (by omega)) | exact O.int rfl rfl (sub64 (by omega)) | exact O.int rfl rfl (add8 (by omega)) | exact O.pickT rfl (by first | with_reducible rfl | with_reducible assumption | decide) rfl | exact O.pickF rfl (by first | with_reducible rfl | with_reducible assumption | decide) rfl | exact O.lenL rfl rfl | exact O.lenSv rfl rfl | exact O.lenS rfl rfl | exact O.not rfl | exact O.svEq rfl rfl | exact O.svNe rfl rfl | exact O.str rfl rfl rfl | exact O.boolEq rfl rfl rfl | exact O.boolNe rfl rfl rfl | exact O.fieldE rfl rfl rfl rfl | exact O.fieldR rfl rfl rfl rfl | exact O.loadPA rfl rfl (by first | exact rfl | with_reducible assumption | assumption | exact at_upd) rfl rfl | exact O.extr rfl rfl | exact O.nilP rfl | exact O.nilF rfl | exact O.extrT rfl rfl | exact O.makeFunc rfl rfl rfl | exact O.fieldF rfl rfl rfl rfl | exact O.loadF rfl rfl rfl rfl | exact O.loadFA rfl rfl rfl | exact O.ptrEq rfl rfl rfl rfl | exact O.ptrNe rfl rfl rfl rfl | exact O.max rfl rfl | (apply O.addrX; exact rfl; infer_instance; exact rfl; exact rfl; omega; (first | with_reducible assumption | assumption); (first | exact rfl | assumption)) | (apply O.load1; exact rfl; (first | with_reducible assumption | assumption); exact rfl; exact rfl; exact rfl) | (apply O.loadE; exact rfl; exact rfl; exact rfl; (first | with_reducible assumption | assumption); exact rfl) | (apply O.loadEA; exact rfl; exact rfl; (first | with_reducible assumption | assumption); exact rfl) | (apply O.call; exact rfl; exact rfl; (first | with_reducible assumption | assumption)) | (apply O.addrRX; exact rfl; infer_instance; exact rfl; exact rfl; (first | with_reducible assumption | assumption); (first | exact rfl | assumption); omega; exact rfl) | (apply O.loadRX; exact rfl; (first | with_reducible assumption | assumption); (first | exact rfl | assumption); (first | with_reducible assumption | assumption); exact rfl; exact rfl; exact rfl) | (apply O.lenO; exact rfl; exact rfl; (first | with_reducible assumption | assumption)) | (apply O.build; exact rfl; exact rfl; exact rfl; exact rfl) | (apply O.callV; exact rfl; infer_instance; exact rfl; exact rfl; (first | with_reducible assumption | assumption)) | (apply O.lookA; exact rfl; infer_instance; infer_instance; exact rfl; exact rfl; exact rfl; (first | with_reducible assumption | assumption))); exact rfl) | (apply R.op1; (first | exact O.boxS rfl rfl rfl | exact O.alloc rfl rfl | exact O.makeMap | (apply O.buildX; exact rfl; infer_instance; exact rfl; exact rfl; decide; exact rfl; exact rfl; decide)); exact rfl) | (apply R.opN1; (first | (apply O.storeP; exact rfl; exact rfl; exact rfl; (first | exact rfl | with_reducible assumption | assumption | exact at_upd); exact rfl; exact rfl) | (apply O.storeP1; exact rfl; exact rfl; exact rfl; assumption; assumption; (first | exact rfl | with_reducible assumption | assumption | exact at_upd); exact rfl; exact rfl))) | (apply R.guardT1; exact rfl; exact rfl; (first | with_reducible rfl | with_reducible assumption | decide)) | (apply R.guardT0; exact rfl; exact rfl; (first | with_reducible rfl | with_reducible assumption | decide)) | (apply R.guardF1; exact rfl; exact rfl; (first | with_reducible rfl | with_reducible assumption | decide); exact rfl) | (apply R.guardF0; exact rfl; exact rfl; (first | with_reducible rfl | with_reducible assumption | decide); exact rfl) | (apply R.guardN; exact rfl; exact rfl; exact rfl) | apply R.done | apply W.seq | apply W.regionN | apply W.drawN | apply W.block | (apply W.condT; exact rfl; (first | with_reducible rfl | with_reducible assumption | decide)) | (apply W.condF; exact rfl; (first | with_reducible rfl | with_reducible assumption | decide)) | apply W.retAft | apply W.retBlk | apply W.retLop | apply W.exitAft | apply W.exitLop | apply W.exitBlk | (apply W.exitBlkNe; exact rfl) | apply W.skipAft | apply W.skipBlk | apply W.retCut | apply W.exitCut | apply R.skip | (apply D.op0; (first | exact O.move rfl | exact O.assign rfl | exact O.fieldP rfl rfl rfl rfl | exact O.loadP rfl rfl rfl (by first | exact rfl | with_reducible assumption | assumption | exact at_upd) rfl | exact O.cmp rfl rfl rfl | exact O.int rfl rfl (add64 (by omega)) | exact O.int rfl rfl (sub64 (by omega)) | exact O.int rfl rfl (add8 (by omega)) | exact O.pickT rfl (by first | with_reducible rfl | with_reducible assumption | decide) rfl | exact O.pickF rfl (by first | with_reducible rfl | with_reducible assumption | decide) rfl | exact O.lenL rfl rfl | exact O.lenSv rfl rfl | exact O.lenS rfl rfl | exact O.not rfl | exact O.svEq rfl rfl | exact O.svNe rfl rfl | exact O.str rfl rfl rfl | exact O.boolEq rfl rfl rfl | exact O.boolNe rfl rfl rfl | exact O.fieldE rfl rfl rfl rfl | exact O.fieldR rfl rfl rfl rfl | exact O.loadPA rfl rfl (by first | exact rfl | with_reducible assumption | assumption | exact at_upd) rfl rfl | exact O.extr rfl rfl | exact O.nilP rfl | exact O.nilF rfl | exact O.extrT rfl rfl | exact O.makeFunc rfl rfl rfl | exact O.fieldF rfl rfl rfl rfl | exact O.loadF rfl rfl rfl rfl | exact O.loadFA rfl rfl rfl | exact O.ptrEq rfl rfl rfl rfl | exact O.ptrNe rfl rfl rfl rfl | exact O.max rfl rfl | (apply O.addrX; exact rfl; infer_instance; exact rfl; exact rfl; omega; (first | with_reducible assumption | assumption); (first | exact rfl | assumption)) | (apply O.load1; exact rfl; (first | with_reducible assumption | assumption); exact rfl; exact rfl; exact rfl) | (apply O.loadE; exact rfl; exact rfl; exact rfl; (first | with_reducible assumption | assumption); exact rfl) | (apply O.loadEA; exact rfl; exact rfl; (first | with_reducible assumption | assumption); exact rfl) | (apply O.call; exact rfl; exact rfl; (first | with_reducible assumption | assumption)) | (apply O.addrRX; exact rfl; infer_instance; exact rfl; exact rfl; (first | with_reducible assumption | assumption); (first | exact rfl | assumption); omega; exact rfl) | (apply O.loadRX; exact rfl; (first | with_reducible assumption | assumption); (first | exact rfl | assumption); (first | with_reducible assumption | assumption); exact rfl; exact rfl; exact rfl) | (apply O.lenO; exact rfl; exact rfl; (first | with_reducible assumption | assumption)) | (apply O.build; exact rfl; exact rfl; exact rfl; exact rfl) | (apply O.callV; exact rfl; infer_instance; exact rfl; exact rfl; (first | with_reducible assumption | assumption)) | (apply O.lookA; exact rfl; infer_instance; infer_instance; exact rfl; exact rfl; exact rfl; (first | with_reducible assumption | assumption))); exact rfl; exact rfl) | (apply D.op1; (first | exact O.boxS rfl rfl rfl | exact O.alloc rfl rfl | exact O.makeMap | (apply O.buildX; exact rfl; infer_instance; exact rfl; exact rfl; decide; exact rfl; exact rfl; decide)); exact rfl; exact rfl) | (apply D.opN1; (first | (apply O.storeP; exact rfl; exact rfl; exact rfl; (first | exact rfl | with_reducible assumption | assumption | exact at_upd); exact rfl; exact rfl) | (apply O.storeP1; exact rfl; exact rfl; exact rfl; assumption; assumption; (first | exact rfl | with_reducible assumption | assumption | exact at_upd); exact rfl; exact rfl)); exact rfl) | (apply D.guardT1; exact rfl; exact rfl; (first | with_reducible rfl | with_reducible assumption | decide)) | (apply D.guardT0; exact rfl; exact rfl; (first | with_reducible rfl | with_reducible assumption | decide)) | (apply D.guardF1; exact rfl; exact rfl; (first | with_reducible rfl | with_reducible assumption | decide); exact rfl) | (apply D.guardF0; exact rfl; exact rfl; (first | with_reducible rfl | with_reducible assumption | decide); exact rfl) | (apply D.guardN; exact rfl; exact rfl; exact rfl) | refine D.auto ?_))
  exact Hold.out k) : P := h ⟨k⟩
/-- The same, but not into a block. -/
theorem ANB {P Q : Prop} (k : Q) (h : Hold Q → P := by
  intro k
  (repeat (first | (apply R.op0; (first | exact O.move rfl | exact O.assign rfl | exact O.fieldP rfl rfl rfl rfl | exact O.loadP rfl rfl rfl (by first | exact rfl | with_reducible assumption | assumption | exact at_upd) rfl | exact O.cmp rfl rfl rfl | exact O.int rfl rfl (add64 (by omega)) | exact O.int rfl rfl (sub64 (by omega)) | exact O.int rfl rfl (add8 (by omega)) | exact O.pickT rfl (by first | with_reducible rfl | with_reducible assumption | decide) rfl | exact O.pickF rfl (by first | with_reducible rfl | with_reducible assumption | decide) rfl | exact O.lenL rfl rfl | exact O.lenSv rfl rfl | exact O.lenS rfl rfl | exact O.not rfl | exact O.svEq rfl rfl | exact O.svNe rfl rfl | exact O.str rfl rfl rfl | exact O.boolEq rfl rfl rfl | exact O.boolNe rfl rfl rfl | exact O.fieldE rfl rfl rfl rfl | exact O.fieldR rfl rfl rfl rfl | exact O.loadPA rfl rfl (by first | exact rfl | with_reducible assumption | assumption | exact at_upd) rfl rfl | exact O.extr rfl rfl | exact O.nilP rfl | exact O.nilF rfl | exact O.extrT rfl rfl | exact O.makeFunc rfl rfl rfl | exact O.fieldF rfl rfl rfl rfl | exact O.loadF rfl rfl rfl rfl | exact O.loadFA rfl rfl rfl | exact O.ptrEq rfl rfl rfl rfl | exact O.ptrNe rfl rfl rfl rfl | exact O.max rfl rfl | (apply O.addrX; exact rfl; infer_instance; exact rfl; exact rfl; omega; (first | with_reducible assumption | assumption); (first | exact rfl | assumption)) | (apply O.load1; exact rfl; (first | with_reducible assumption | assumption); exact rfl; exact rfl; exact rfl) | (apply O.loadE; exact rfl; exact rfl; exact rfl; (first | with_reducible assumption | assumption); exact rfl) | (apply O.loadEA; exact rfl; exact rfl; (first | with_reducible assumption | assumption); exact rfl) | (apply O.call; exact rfl; exact rfl; (first | with_reducible assumption | assumption)) | (apply O.addrRX; exact rfl; infer_instance; exact rfl; exact rfl; (first | with_reducible assumption | assumption); (first | exact rfl | assumption); omega; exact rfl) | (apply O.loadRX; exact rfl; (first | with_reducible assumption | assumption); (first | exact rfl | assumption); (first | with_reducible assumption | assumption); exact rfl; exact rfl; exact rfl) | (apply O.lenO; exact rfl; exact rfl; (first | with_reducible assumption | assumption)) | (apply O.build; exact rfl; exact rfl; exact rfl; exact rfl) | (apply O.callV; exact rfl; infer_instance; exact rfl; exact rfl; (first | with_reducible assumption | assumption)) | (apply O.lookA; exact rfl; infer_instance; infer_instance; exact rfl; exact rfl; exact rfl; (first | with_reducible assumption | assumption))); exact rfl) | (apply R.op1; (first | exact O.boxS rfl rfl rfl | exact O.alloc rfl rfl | exact O.makeMap | (apply O.buildX; exact rfl; infer_instance; exact rfl; exact rfl; decide; exact rfl; exact rfl; decide)); exact rfl) | (apply R.opN1; (first | (apply O.storeP; exact rfl; exact rfl; exact rfl; (first | exact rfl | with_reducible assumption | assumption | exact at_upd); exact rfl; exact rfl) | (apply O.storeP1; exact rfl; exact rfl; exact rfl; assumption; assumption; (first | exact rfl | with_reducible assumption | assumption | exact at_upd); exact rfl; exact rfl))) | (apply R.guardT1; exact rfl; exact rfl; (first | with_reducible rfl | with_reducible assumption | decide)) | (apply R.guardT0; exact rfl; exact rfl; (first | with_reducible rfl | with_reducible assumption | decide)) | (apply R.guardF1; exact rfl; exact rfl; (first | with_reducible rfl | with_reducible assumption | decide); exact rfl) | (apply R.guardF0; exact rfl; exact rfl; (first | with_reducible rfl | with_reducible assumption | decide); exact rfl) | (apply R.guardN; exact rfl; exact rfl; exact rfl) | apply R.done | (first | apply W.seqR | apply W.seqC) | apply W.regionN | apply W.drawN | (apply W.condT; exact rfl; (first | with_reducible rfl | with_reducible assumption | decide)) | (apply W.condF; exact rfl; (first | with_reducible rfl | with_reducible assumption | decide)) | apply W.retAft | apply W.retBlk | apply W.retLop | apply W.exitAft | apply W.exitLop | apply W.exitBlk | (apply W.exitBlkNe; exact rfl) | apply W.skipAft | apply W.skipBlk | apply W.retCut | apply W.exitCut | apply R.skip | (apply D.op0; (first | exact O.move rfl | exact O.assign rfl | exact O.fieldP rfl rfl rfl rfl | exact O.loadP rfl rfl rfl (by first | exact rfl | with_reducible assumption | assumption | exact at_upd) rfl | exact O.cmp rfl rfl rfl | exact O.int rfl rfl (add64 (by omega)) | exact O.int rfl rfl (sub64 (by omega)) | exact O.int rfl rfl (add8 (by omega)) | exact O.pickT rfl (by first | with_reducible rfl | with_reducible assumption | decide) rfl | exact O.pickF rfl (by first | with_reducible rfl | with_reducible assumption | decide) rfl | exact O.lenL rfl rfl | exact O.lenSv rfl rfl | exact O.lenS rfl rfl | exact O.not rfl | exact O.svEq rfl rfl | exact O.svNe rfl rfl | exact O.str rfl rfl rfl | exact O.boolEq rfl rfl rfl | exact O.boolNe rfl rfl rfl | exact O.fieldE rfl rfl rfl rfl | exact O.fieldR rfl rfl rfl rfl | exact O.loadPA rfl rfl (by first | exact rfl | with_reducible assumption | assumption | exact at_upd) rfl rfl | exact O.extr rfl rfl | exact O.nilP rfl | exact O.nilF rfl | exact O.extrT rfl rfl | exact O.makeFunc rfl rfl rfl | exact O.fieldF rfl rfl rfl rfl | exact O.loadF rfl rfl rfl rfl | exact O.loadFA rfl rfl rfl | exact O.ptrEq rfl rfl rfl rfl | exact O.ptrNe rfl rfl rfl rfl | exact O.max rfl rfl | (apply O.addrX; exact rfl; infer_instance; exact rfl; exact rfl; omega; (first | with_reducible assumption | assumption); (first | exact rfl | assumption)) | (apply O.load1; exact rfl; (first | with_reducible assumption | assumption); exact rfl; exact rfl; exact rfl) | (apply O.loadE; exact rfl; exact rfl; exact rfl; (first | with_reducible assumption | assumption); exact rfl) | (apply O.loadEA; exact rfl; exact rfl; (first | with_reducible assumption | assumption); exact rfl) | (apply O.call; exact rfl; exact rfl; (first | with_reducible assumption | assumption)) | (apply O.addrRX; exact rfl; infer_instance; exact rfl; exact rfl; (first | with_reducible assumption | assumption); (first | exact rfl | assumption); omega; exact rfl) | (apply O.loadRX; exact rfl; (first | with_reducible assumption | assumption); (first | exact rfl | assumption); (first | with_reducible assumption | assumption); exact rfl; exact rfl; exact rfl) | (apply O.lenO; exact rfl; exact rfl; (first | with_reducible assumption | assumption)) | (apply O.build; exact rfl; exact rfl; exact rfl; exact rfl) | (apply O.callV; exact rfl; infer_instance; exact rfl; exact rfl; (first | with_reducible assumption | assumption)) | (apply O.lookA; exact rfl; infer_instance; infer_instance; exact rfl; exact rfl; exact rfl; (first | with_reducible assumption | assumption))); exact rfl; exact rfl) | (apply D.op1; (first | exact O.boxS rfl rfl rfl | exact O.alloc rfl rfl | exact O.makeMap | (apply O.buildX; exact rfl; infer_instance; exact rfl; exact rfl; decide; exact rfl; exact rfl; decide)); exact rfl; exact rfl) | (apply D.opN1; (first | (apply O.storeP; exact rfl; exact rfl; exact rfl; (first | exact rfl | with_reducible assumption | assumption | exact at_upd); exact rfl; exact rfl) | (apply O.storeP1; exact rfl; exact rfl; exact rfl; assumption; assumption; (first | exact rfl | with_reducible assumption | assumption | exact at_upd); exact rfl; exact rfl)); exact rfl) | (apply D.guardT1; exact rfl; exact rfl; (first | with_reducible rfl | with_reducible assumption | decide)) | (apply D.guardT0; exact rfl; exact rfl; (first | with_reducible rfl | with_reducible assumption | decide)) | (apply D.guardF1; exact rfl; exact rfl; (first | with_reducible rfl | with_reducible assumption | decide); exact rfl) | (apply D.guardF0; exact rfl; exact rfl; (first | with_reducible rfl | with_reducible assumption | decide); exact rfl) | (apply D.guardN; exact rfl; exact rfl; exact rfl) | refine D.auto ?_))
  exact Hold.out k) : P := h ⟨k⟩
/-- In a drawn region that will panic. -/
theorem AX {P Q : Prop} (k : Q) (h : Hold Q → P := by
  intro k
  (repeat (first | (apply DX.op0; (first | exact O.move rfl | exact O.assign rfl | exact O.fieldP rfl rfl rfl rfl | exact O.loadP rfl rfl rfl (by first | exact rfl | with_reducible assumption | assumption | exact at_upd) rfl | exact O.cmp rfl rfl rfl | exact O.int rfl rfl (add64 (by omega)) | exact O.int rfl rfl (sub64 (by omega)) | exact O.int rfl rfl (add8 (by omega)) | exact O.pickT rfl (by first | with_reducible rfl | with_reducible assumption | decide) rfl | exact O.pickF rfl (by first | with_reducible rfl | with_reducible assumption | decide) rfl | exact O.lenL rfl rfl | exact O.lenSv rfl rfl | exact O.lenS rfl rfl | exact O.not rfl | exact O.svEq rfl rfl | exact O.svNe rfl rfl | exact O.str rfl rfl rfl | exact O.boolEq rfl rfl rfl | exact O.boolNe rfl rfl rfl | exact O.fieldE rfl rfl rfl rfl | exact O.fieldR rfl rfl rfl rfl | exact O.loadPA rfl rfl (by first | exact rfl | with_reducible assumption | assumption | exact at_upd) rfl rfl | exact O.extr rfl rfl | exact O.nilP rfl | exact O.nilF rfl | exact O.extrT rfl rfl | exact O.makeFunc rfl rfl rfl | exact O.fieldF rfl rfl rfl rfl | exact O.loadF rfl rfl rfl rfl | exact O.loadFA rfl rfl rfl | exact O.ptrEq rfl rfl rfl rfl | exact O.ptrNe rfl rfl rfl rfl | exact O.max rfl rfl | (apply O.addrX; exact rfl; infer_instance; exact rfl; exact rfl; omega; (first | with_reducible assumption | assumption); (first | exact rfl | assumption)) | (apply O.load1; exact rfl; (first | with_reducible assumption | assumption); exact rfl; exact rfl; exact rfl) | (apply O.loadE; exact rfl; exact rfl; exact rfl; (first | with_reducible assumption | assumption); exact rfl) | (apply O.loadEA; exact rfl; exact rfl; (first | with_reducible assumption | assumption); exact rfl) | (apply O.call; exact rfl; exact rfl; (first | with_reducible assumption | assumption)) | (apply O.addrRX; exact rfl; infer_instance; exact rfl; exact rfl; (first | with_reducible assumption | assumption); (first | exact rfl | assumption); omega; exact rfl) | (apply O.loadRX; exact rfl; (first | with_reducible assumption | assumption); (first | exact rfl | assumption); (first | with_reducible assumption | assumption); exact rfl; exact rfl; exact rfl) | (apply O.lenO; exact rfl; exact rfl; (first | with_reducible assumption | assumption)) | (apply O.build; exact rfl; exact rfl; exact rfl; exact rfl) | (apply O.callV; exact rfl; infer_instance; exact rfl; exact rfl; (first | with_reducible assumption | assumption)) | (apply O.lookA; exact rfl; infer_instance; infer_instance; exact rfl; exact rfl; exact rfl; (first | with_reducible assumption | assumption))); exact rfl; exact rfl)))
  exact Hold.out k) : P := h ⟨k⟩
/-- To the end of a region, and out of it; at a sequence, of its first region. -/
theorem A1 {P Q : Prop} (k : Q) (h : Hold Q → P := by
  intro k
  (try (apply W.seqR; (first | apply W.regionN | apply W.drawN)))
  (repeat (first | (apply R.op0; (first | exact O.move rfl | exact O.assign rfl | exact O.fieldP rfl rfl rfl rfl | exact O.loadP rfl rfl rfl (by first | exact rfl | with_reducible assumption | assumption | exact at_upd) rfl | exact O.cmp rfl rfl rfl | exact O.int rfl rfl (add64 (by omega)) | exact O.int rfl rfl (sub64 (by omega)) | exact O.int rfl rfl (add8 (by omega)) | exact O.pickT rfl (by first | with_reducible rfl | with_reducible assumption | decide) rfl | exact O.pickF rfl (by first | with_reducible rfl | with_reducible assumption | decide) rfl | exact O.lenL rfl rfl | exact O.lenSv rfl rfl | exact O.lenS rfl rfl | exact O.not rfl | exact O.svEq rfl rfl | exact O.svNe rfl rfl | exact O.str rfl rfl rfl | exact O.boolEq rfl rfl rfl | exact O.boolNe rfl rfl rfl | exact O.fieldE rfl rfl rfl rfl | exact O.fieldR rfl rfl rfl rfl | exact O.loadPA rfl rfl (by first | exact rfl | with_reducible assumption | assumption | exact at_upd) rfl rfl | exact O.extr rfl rfl | exact O.nilP rfl | exact O.nilF rfl | exact O.extrT rfl rfl | exact O.makeFunc rfl rfl rfl | exact O.fieldF rfl rfl rfl rfl | exact O.loadF rfl rfl rfl rfl | exact O.loadFA rfl rfl rfl | exact O.ptrEq rfl rfl rfl rfl | exact O.ptrNe rfl rfl rfl rfl | exact O.max rfl rfl | (apply O.addrX; exact rfl; infer_instance; exact rfl; exact rfl; omega; (first | with_reducible assumption | assumption); (first | exact rfl | assumption)) | (apply O.load1; exact rfl; (first | with_reducible assumption | assumption); exact rfl; exact rfl; exact rfl) | (apply O.loadE; exact rfl; exact rfl; exact rfl; (first | with_reducible assumption | assumption); exact rfl) | (apply O.loadEA; exact rfl; exact rfl; (first | with_reducible assumption | assumption); exact rfl) | (apply O.call; exact rfl; exact rfl; (first | with_reducible assumption | assumption)) | (apply O.addrRX; exact rfl; infer_instance; exact rfl; exact rfl; (first | with_reducible assumption | assumption); (first | exact rfl | assumption); omega; exact rfl) | (apply O.loadRX; exact rfl; (first | with_reducible assumption | assumption); (first | exact rfl | assumption); (first | with_reducible assumption | assumption); exact rfl; exact rfl; exact rfl) | (apply O.lenO; exact rfl; exact rfl; (first | with_reducible assumption | assumption)) | (apply O.build; exact rfl; exact rfl; exact rfl; exact rfl) | (apply O.callV; exact rfl; infer_instance; exact rfl; exact rfl; (first | with_reducible assumption | assumption)) | (apply O.lookA; exact rfl; infer_instance; infer_instance; exact rfl; exact rfl; exact rfl; (first | with_reducible assumption | assumption))); exact rfl) | (apply R.op1; (first | exact O.boxS rfl rfl rfl | exact O.alloc rfl rfl | exact O.makeMap | (apply O.buildX; exact rfl; infer_instance; exact rfl; exact rfl; decide; exact rfl; exact rfl; decide)); exact rfl) | (apply R.opN1; (first | (apply O.storeP; exact rfl; exact rfl; exact rfl; (first | exact rfl | with_reducible assumption | assumption | exact at_upd); exact rfl; exact rfl) | (apply O.storeP1; exact rfl; exact rfl; exact rfl; assumption; assumption; (first | exact rfl | with_reducible assumption | assumption | exact at_upd); exact rfl; exact rfl))) | (apply R.guardT1; exact rfl; exact rfl; (first | with_reducible rfl | with_reducible assumption | decide)) | (apply R.guardT0; exact rfl; exact rfl; (first | with_reducible rfl | with_reducible assumption | decide)) | (apply R.guardF1; exact rfl; exact rfl; (first | with_reducible rfl | with_reducible assumption | decide); exact rfl) | (apply R.guardF0; exact rfl; exact rfl; (first | with_reducible rfl | with_reducible assumption | decide); exact rfl) | (apply R.guardN; exact rfl; exact rfl; exact rfl) | (apply D.op0; (first | exact O.move rfl | exact O.assign rfl | exact O.fieldP rfl rfl rfl rfl | exact O.loadP rfl rfl rfl (by first | exact rfl | with_reducible assumption | assumption | exact at_upd) rfl | exact O.cmp rfl rfl rfl | exact O.int rfl rfl (add64 (by omega)) | exact O.int rfl rfl (sub64 (by omega)) | exact O.int rfl rfl (add8 (by omega)) | exact O.pickT rfl (by first | with_reducible rfl | with_reducible assumption | decide) rfl | exact O.pickF rfl (by first | with_reducible rfl | with_reducible assumption | decide) rfl | exact O.lenL rfl rfl | exact O.lenSv rfl rfl | exact O.lenS rfl rfl | exact O.not rfl | exact O.svEq rfl rfl | exact O.svNe rfl rfl | exact O.str rfl rfl rfl | exact O.boolEq rfl rfl rfl | exact O.boolNe rfl rfl rfl | exact O.fieldE rfl rfl rfl rfl | exact O.fieldR rfl rfl rfl rfl | exact O.loadPA rfl rfl (by first | exact rfl | with_reducible assumption | assumption | exact at_upd) rfl rfl | exact O.extr rfl rfl | exact O.nilP rfl | exact O.nilF rfl | exact O.extrT rfl rfl | exact O.makeFunc rfl rfl rfl | exact O.fieldF rfl rfl rfl rfl | exact O.loadF rfl rfl rfl rfl | exact O.loadFA rfl rfl rfl | exact O.ptrEq rfl rfl rfl rfl | exact O.ptrNe rfl rfl rfl rfl | exact O.max rfl rfl | (apply O.addrX; exact rfl; infer_instance; exact rfl; exact rfl; omega; (first | with_reducible assumption | assumption); (first | exact rfl | assumption)) | (apply O.load1; exact rfl; (first | with_reducible assumption | assumption); exact rfl; exact rfl; exact rfl) | (apply O.loadE; exact rfl; exact rfl; exact rfl; (first | with_reducible assumption | assumption); exact rfl) | (apply O.loadEA; exact rfl; exact rfl; (first | with_reducible assumption | assumption); exact rfl) | (apply O.call; exact rfl; exact rfl; (first | with_reducible assumption | assumption)) | (apply O.addrRX; exact rfl; infer_instance; exact rfl; exact rfl; (first | with_reducible assumption | assumption); (first | exact rfl | assumption); omega; exact rfl) | (apply O.loadRX; exact rfl; (first | with_reducible assumption | assumption); (first | exact rfl | assumption); (first | with_reducible assumption | assumption); exact rfl; exact rfl; exact rfl) | (apply O.lenO; exact rfl; exact rfl; (first | with_reducible assumption | assumption)) | (apply O.build; exact rfl; exact rfl; exact rfl; exact rfl) | (apply O.callV; exact rfl; infer_instance; exact rfl; exact rfl; (first | with_reducible assumption | assumption)) | (apply O.lookA; exact rfl; infer_instance; infer_instance; exact rfl; exact rfl; exact rfl; (first | with_reducible assumption | assumption))); exact rfl; exact rfl) | (apply D.op1; (first | exact O.boxS rfl rfl rfl | exact O.alloc rfl rfl | exact O.makeMap | (apply O.buildX; exact rfl; infer_instance; exact rfl; exact rfl; decide; exact rfl; exact rfl; decide)); exact rfl; exact rfl) | (apply D.opN1; (first | (apply O.storeP; exact rfl; exact rfl; exact rfl; (first | exact rfl | with_reducible assumption | assumption | exact at_upd); exact rfl; exact rfl) | (apply O.storeP1; exact rfl; exact rfl; exact rfl; assumption; assumption; (first | exact rfl | with_reducible assumption | assumption | exact at_upd); exact rfl; exact rfl)); exact rfl) | (apply D.guardT1; exact rfl; exact rfl; (first | with_reducible rfl | with_reducible assumption | decide)) | (apply D.guardT0; exact rfl; exact rfl; (first | with_reducible rfl | with_reducible assumption | decide)) | (apply D.guardF1; exact rfl; exact rfl; (first | with_reducible rfl | with_reducible assumption | decide); exact rfl) | (apply D.guardF0; exact rfl; exact rfl; (first | with_reducible rfl | with_reducible assumption | decide); exact rfl) | (apply D.guardN; exact rfl; exact rfl; exact rfl)))
  (first | apply R.done | refine D.auto ?_)
  exact Hold.out k) : P := h ⟨k⟩
/-- To the end of a region. -/
theorem AQ {P Q : Prop} (k : Q) (h : Hold Q → P := by
  intro k
  (repeat (first | (apply R.op0; (first | exact O.move rfl | exact O.assign rfl | exact O.fieldP rfl rfl rfl rfl | exact O.loadP rfl rfl rfl (by first | exact rfl | with_reducible assumption | assumption | exact at_upd) rfl | exact O.cmp rfl rfl rfl | exact O.int rfl rfl (add64 (by omega)) | exact O.int rfl rfl (sub64 (by omega)) | exact O.int rfl rfl (add8 (by omega)) | exact O.pickT rfl (by first | with_reducible rfl | with_reducible assumption | decide) rfl | exact O.pickF rfl (by first | with_reducible rfl | with_reducible assumption | decide) rfl | exact O.lenL rfl rfl | exact O.lenSv rfl rfl | exact O.lenS rfl rfl | exact O.not rfl | exact O.svEq rfl rfl | exact O.svNe rfl rfl | exact O.str rfl rfl rfl | exact O.boolEq rfl rfl rfl | exact O.boolNe rfl rfl rfl | exact O.fieldE rfl rfl rfl rfl | exact O.fieldR rfl rfl rfl rfl | exact O.loadPA rfl rfl (by first | exact rfl | with_reducible assumption | assumption | exact at_upd) rfl rfl | exact O.extr rfl rfl | exact O.nilP rfl | exact O.nilF rfl | exact O.extrT rfl rfl | exact O.makeFunc rfl rfl rfl | exact O.fieldF rfl rfl rfl rfl | exact O.loadF rfl rfl rfl rfl | exact O.loadFA rfl rfl rfl | exact O.ptrEq rfl rfl rfl rfl | exact O.ptrNe rfl rfl rfl rfl | exact O.max rfl rfl | (apply O.addrX; exact rfl; infer_instance; exact rfl; exact rfl; omega; (first | with_reducible assumption | assumption); (first | exact rfl | assumption)) | (apply O.load1; exact rfl; (first | with_reducible assumption | assumption); exact rfl; exact rfl; exact rfl) | (apply O.loadE; exact rfl; exact rfl; exact rfl; (first | with_reducible assumption | assumption); exact rfl) | (apply O.loadEA; exact rfl; exact rfl; (first | with_reducible assumption | assumption); exact rfl) | (apply O.call; exact rfl; exact rfl; (first | with_reducible assumption | assumption)) | (apply O.addrRX; exact rfl; infer_instance; exact rfl; exact rfl; (first | with_reducible assumption | assumption); (first | exact rfl | assumption); omega; exact rfl) | (apply O.loadRX; exact rfl; (first | with_reducible assumption | assumption); (first | exact rfl | assumption); (first | with_reducible assumption | assumption); exact rfl; exact rfl; exact rfl) | (apply O.lenO; exact rfl; exact rfl; (first | with_reducible assumption | assumption)) | (apply O.build; exact rfl; exact rfl; exact rfl; exact rfl) | (apply O.callV; exact rfl; infer_instance; exact rfl; exact rfl; (first | with_reducible assumption | assumption)) | (apply O.lookA; exact rfl; infer_instance; infer_instance; exact rfl; exact rfl; exact rfl; (first | with_reducible assumption | assumption))); exact rfl) | (apply R.op1; (first | exact O.boxS rfl rfl rfl | exact O.alloc rfl rfl | exact O.makeMap | (apply O.buildX; exact rfl; infer_instance; exact rfl; exact rfl; decide; exact rfl; exact rfl; decide)); exact rfl) | (apply R.opN1; (first | (apply O.storeP; exact rfl; exact rfl; exact rfl; (first | exact rfl | with_reducible assumption | assumption | exact at_upd); exact rfl; exact rfl) | (apply O.storeP1; exact rfl; exact rfl; exact rfl; assumption; assumption; (first | exact rfl | with_reducible assumption | assumption | exact at_upd); exact rfl; exact rfl))) | (apply R.guardT1; exact rfl; exact rfl; (first | with_reducible rfl | with_reducible assumption | decide)) | (apply R.guardT0; exact rfl; exact rfl; (first | with_reducible rfl | with_reducible assumption | decide)) | (apply R.guardF1; exact rfl; exact rfl; (first | with_reducible rfl | with_reducible assumption | decide); exact rfl) | (apply R.guardF0; exact rfl; exact rfl; (first | with_reducible rfl | with_reducible assumption | decide); exact rfl) | (apply R.guardN; exact rfl; exact rfl; exact rfl)))
  exact Hold.out k) : P := h ⟨k⟩
/-- To the end of a drawn region. -/
theorem AD {P Q : Prop} (k : Q) (h : Hold Q → P := by
  intro k
  (repeat (first | (apply D.op0; (first | exact O.move rfl | exact O.assign rfl | exact O.fieldP rfl rfl rfl rfl | exact O.loadP rfl rfl rfl (by first | exact rfl | with_reducible assumption | assumption | exact at_upd) rfl | exact O.cmp rfl rfl rfl | exact O.int rfl rfl (add64 (by omega)) | exact O.int rfl rfl (sub64 (by omega)) | exact O.int rfl rfl (add8 (by omega)) | exact O.pickT rfl (by first | with_reducible rfl | with_reducible assumption | decide) rfl | exact O.pickF rfl (by first | with_reducible rfl | with_reducible assumption | decide) rfl | exact O.lenL rfl rfl | exact O.lenSv rfl rfl | exact O.lenS rfl rfl | exact O.not rfl | exact O.svEq rfl rfl | exact O.svNe rfl rfl | exact O.str rfl rfl rfl | exact O.boolEq rfl rfl rfl | exact O.boolNe rfl rfl rfl | exact O.fieldE rfl rfl rfl rfl | exact O.fieldR rfl rfl rfl rfl | exact O.loadPA rfl rfl (by first | exact rfl | with_reducible assumption | assumption | exact at_upd) rfl rfl | exact O.extr rfl rfl | exact O.nilP rfl | exact O.nilF rfl | exact O.extrT rfl rfl | exact O.makeFunc rfl rfl rfl | exact O.fieldF rfl rfl rfl rfl | exact O.loadF rfl rfl rfl rfl | exact O.loadFA rfl rfl rfl | exact O.ptrEq rfl rfl rfl rfl | exact O.ptrNe rfl rfl rfl rfl | exact O.max rfl rfl | (apply O.addrX; exact rfl; infer_instance; exact rfl; exact rfl; omega; (first | with_reducible assumption | assumption); (first | exact rfl | assumption)) | (apply O.load1; exact rfl; (first | with_reducible assumption | assumption); exact rfl; exact rfl; exact rfl) | (apply O.loadE; exact rfl; exact rfl; exact rfl; (first | with_reducible assumption | assumption); exact rfl) | (apply O.loadEA; exact rfl; exact rfl; (first | with_reducible assumption | assumption); exact rfl) | (apply O.call; exact rfl; exact rfl; (first | with_reducible assumption | assumption)) | (apply O.addrRX; exact rfl; infer_instance; exact rfl; exact rfl; (first | with_reducible assumption | assumption); (first | exact rfl | assumption); omega; exact rfl) | (apply O.loadRX; exact rfl; (first | with_reducible assumption | assumption); (first | exact rfl | assumption); (first | with_reducible assumption | assumption); exact rfl; exact rfl; exact rfl) | (apply O.lenO; exact rfl; exact rfl; (first | with_reducible assumption | assumption)) | (apply O.build; exact rfl; exact rfl; exact rfl; exact rfl) | (apply O.callV; exact rfl; infer_instance; exact rfl; exact rfl; (first | with_reducible assumption | assumption)) | (apply O.lookA; exact rfl; infer_instance; infer_instance; exact rfl; exact rfl; exact rfl; (first | with_reducible assumption | assumption))); exact rfl; exact rfl) | (apply D.op1; (first | exact O.boxS rfl rfl rfl | exact O.alloc rfl rfl | exact O.makeMap | (apply O.buildX; exact rfl; infer_instance; exact rfl; exact rfl; decide; exact rfl; exact rfl; decide)); exact rfl; exact rfl) | (apply D.opN1; (first | (apply O.storeP; exact rfl; exact rfl; exact rfl; (first | exact rfl | with_reducible assumption | assumption | exact at_upd); exact rfl; exact rfl) | (apply O.storeP1; exact rfl; exact rfl; exact rfl; assumption; assumption; (first | exact rfl | with_reducible assumption | assumption | exact at_upd); exact rfl; exact rfl)); exact rfl) | (apply D.guardT1; exact rfl; exact rfl; (first | with_reducible rfl | with_reducible assumption | decide)) | (apply D.guardT0; exact rfl; exact rfl; (first | with_reducible rfl | with_reducible assumption | decide)) | (apply D.guardF1; exact rfl; exact rfl; (first | with_reducible rfl | with_reducible assumption | decide); exact rfl) | (apply D.guardF0; exact rfl; exact rfl; (first | with_reducible rfl | with_reducible assumption | decide); exact rfl) | (apply D.guardN; exact rfl; exact rfl; exact rfl)))
  exact Hold.out k) : P := h ⟨k⟩
end Go.Abs

/- Programs that are looked at: terms. -/
open Go Go.Abs
namespace Go.Abs
set_option maxRecDepth 100000
set_option maxHeartbeats 4000000
instance fnis86 : FnIs CC 86 := ⟨rfl, fun _ => rfl⟩
def ty71 : TyI := { d := TyD.ptr, sz := 1, bytes := 8, zero := AV.imm IV.nilp }
instance tyis71 : TyIs CC 71 ty71 := ⟨by kernel_rfl⟩
def ty84 : TyI := { d := TyD.st [(0, 2), (2, 1), (3, 1), (4, 1)], sz := 5, bytes := 40, zero := AV.imm (IV.agg [IV.nilmap, IV.nilmap, IV.nilmap, IV.int Go.IntKind.i64 (0), IV.int Go.IntKind.i64 (0)]) }
instance tyis84 : TyIs CC 84 ty84 := ⟨by kernel_rfl⟩
def ty81 : TyI := { d := TyD.st [(0, 1), (1, 1)], sz := 2, bytes := 16, zero := AV.imm (IV.agg [IV.nilmap, IV.nilmap]) }
instance tyis81 : TyIs CC 81 ty81 := ⟨by kernel_rfl⟩
def ty82 : TyI := { d := TyD.mp 55 137, sz := 1, bytes := 8, zero := AV.imm IV.nilmap }
instance tyis82 : TyIs CC 82 ty82 := ⟨by kernel_rfl⟩
def ty79 : TyI := { d := TyD.mp 9 3, sz := 1, bytes := 8, zero := AV.imm IV.nilmap }
instance tyis79 : TyIs CC 79 ty79 := ⟨by kernel_rfl⟩
def ty137 : TyI := { d := TyD.st [(0, 1), (1, 1), (2, 1), (3, 1), (4, 1), (5, 1)], sz := 6, bytes := 40, zero := AV.imm (IV.agg [IV.int Go.IntKind.i64 (0), IV.int Go.IntKind.i64 (0), IV.bool Bool.false, IV.bool Bool.false, IV.int Go.IntKind.i64 (0), IV.int Go.IntKind.i64 (0)]) }
instance tyis137 : TyIs CC 137 ty137 := ⟨by kernel_rfl⟩

def unf : IV := .iface 115 (.agg [])
theorem ret86 : Ret CC 86 [.bool true] (.tup []) := Ret.reckon (n := 10) (by kernel_rfl)
theorem pan86 : RetPan CC 86 [.bool false] unf := RetPan.reckon (n := 10) (by kernel_rfl) rfl

/-- The scope behind a count. -/
def SPost (o : Nat) (a b c d : AV) (n res : Int) (G : Nat → Obj) (nx : Nat) : CR → Prop
  | .ret v G' nx' => v = .imm (.tup []) ∧ 0 ≤ res ∧ G' o = .box [a, b, c, d, .imm (.int .i64 (n + res))] false ∧ nx ≤ nx' ∧ ∀ q, q < nx → q ≠ o → G' q = G q
  | .pan u G' nx' => u = unf ∧ res < 0 ∧ nx ≤ nx' ∧ ∀ q, q < nx → q ≠ o → G' q = G q

def oneR (depth left : Int) : Int := if depth > 10 ∨ left < 1 then -1 else 1

theorem retM {b : Bool} (h : b = true) : Ret CC 86 [.bool b] (.tup []) := h ▸ ret86
theorem panM {b : Bool} (h : b = false) : RetPan CC 86 [.bool b] unf := h ▸ pan86

theorem cal103 {o nx : Nat} {G : Nat → Obj} {a b c d : AV} {n depth : Int} (hG : G o = .box [a, b, c, d, .imm (.int .i64 n)] false) (_ho : o < nx) (hn : 0 ≤ n ∧ n ≤ 1000) :
    CalP CC 103 [.ptr o 0, .imm (.int .i64 depth)] G nx (SPost o a b c d n (oneR depth (60 - n)) G nx) := by
  refine CalP.of (fn := Go.Proofs.Try.f103) (by kernel_rfl) rfl rfl ?_
  rcases Bool.eq_false_or_eq_true (decide (n + 1 ≤ 60)) with h1 | h1
  · rcases Bool.eq_false_or_eq_true (decide (depth ≤ 10)) with h2 | h2
    · have h1' := of_decide_eq_true h1
      have h2' := of_decide_eq_true h2
      have hr := retM h2
      refine AA ?_
      have e : oneR depth (60 - n) = 1 := by unfold oneR; rw [if_neg (by omega)]
      rw [e]
      exact W.skipFinP rfl ⟨rfl, by decide, at_upd, by omega, fun q _ _ => at_upd⟩
    · have h2' := of_decide_eq_false h2
      have e : oneR depth (60 - n) = -1 := by unfold oneR; rw [if_pos (by omega)]
      rw [e]
      refine AA ?_
      exact R.callPan rfl rfl (panM h2) (panTo ⟨rfl, by decide, by omega, fun q _ _ => at_upd⟩)
  · have h1' := of_decide_eq_false h1
    have e : oneR depth (60 - n) = -1 := by unfold oneR; rw [if_pos (by omega)]
    rw [e]
    refine AA ?_
    exact R.callPan rfl rfl pan86 (panTo ⟨rfl, by decide, by omega, fun q _ _ => at_upd⟩)

theorem cal104 {o : Nat} {a b cc d : AV} {c : Trm} (hf : c.Fits) : ∀ {nx : Nat} {G : Nat → Obj} {n depth : Int} {other : Bool}, G o = .box [a, b, cc, d, .imm (.int .i64 n)] false → o < nx → (0 ≤ n ∧ n ≤ 60) → (-1000 ≤ depth ∧ depth ≤ 1000) →
    CalP CC 104 [.ptr o 0, .imm c.iv, .imm (.bool other), .imm (.int .i64 depth)] G nx (SPost o a b cc d n (calcR c other depth (60 - n)) G nx) := by
  induction hf with
  | mk op n' kids hlen hkf ih =>
  intro nx G n depth other hG ho hn hd
  have hlen' : kids.length ≤ 9223372036854775807 := hlen
  refine CalP.of (fn := Go.Proofs.Try.f104) (by kernel_rfl) rfl rfl ?_
  refine AA ?_
  refine R.callBP rfl rfl rfl rfl rfl ((cal103 (o := o) (n := n) at_upd (by omega) (by omega)).mono fun r hr => ?_)
  cases r with
  | pan u G' nx' =>
    obtain ⟨rfl, h1, h2, h3⟩ := hr
    have e : calcR (.mk op n' kids) other depth (60 - n) = -1 := by
      rw [calcR, if_pos]
      unfold oneR at h1
      split at h1
      · assumption
      · omega
    rw [e]
    exact panTo ⟨rfl, by decide, by omega, fun q h4 h5 => (h3 q (by omega) h5).trans at_upd⟩
  | ret v G' nx' =>
    obtain ⟨rfl, h1, h2, h3, h4⟩ := hr
    dsimp only
    have hor : oneR depth (60 - n) = 1 := by unfold oneR at h1 ⊢; split <;> simp_all
    have hdl : ¬ (depth > 10 ∨ (60 - n) < 1) := by unfold oneR at h1; split at h1 <;> omega
    rw [hor] at h2
    have hmk := calcR_mk (op := op) (n := n') (kids := kids) (other := other) hdl
    have hB : G' (nx + 0) = .box [.imm (.int .i64 op), .imm (.int .i64 n'), .imm (.lst (Trm.ivs kids))] false := (h4 _ (by omega) (by omega)).trans at_upd
    have hfr : ∀ q, q < nx → q ≠ o → G' q = G q := fun q h5 h6 => (h4 q (by omega) h6).trans at_upd
    have hnx : nx + 1 ≤ nx' := by omega
    clear h3 h4 h1 hor
    have bad : calcR (.mk op n' kids) other depth (60 - n) = -1 → ∀ {G2 : Nat → Obj} {nx2 : Nat} {l : Env}, nx + 1 ≤ nx2 → (∀ q, q < nx → q ≠ o → G2 q = G q) →
        ∀ t, Agree t l → finP CC Go.Proofs.Try.f104.results.toList (SPost o a b cc d n (calcR (.mk op n' kids) other depth (60 - n)) G nx) (.pan unf ⟨t, G2, nx2, [], .no⟩) := by
      intro e G2 nx2 l h1 h2
      rw [e]
      exact panTo ⟨rfl, by decide, by omega, h2⟩
    refine AB ?_
    refine W.cut (X := Nat) (fun k => [(0, .ptr o 0), (2, .imm (.bool other)), (3, .imm (.int .i64 depth)), (5, .ptr (nx + 0) 0), (8, .imm (.int .i64 k))])
      (fun k nx2 G2 => G2 = G' ∧ nx' ≤ nx2 ∧ kidsOf op n' other = some k) ?_ ?_
    · refine AB ?_
      have hnone : kidsOf op n' other = none → calcR (.mk op n' kids) other depth (60 - n) = -1 := fun h => by rw [hmk, h]
      have hops : op = 1 ∨ op = 5 ∨ (op = 2 ∨ op = 3 ∨ op = 4) ∨ (op = 6 ∨ op = 7 ∨ op = 8 ∨ op = 9 ∨ op = 10) ∨ (op ≠ 1 ∧ op ≠ 2 ∧ op ≠ 3 ∧ op ≠ 4 ∧ op ≠ 5 ∧ op ≠ 6 ∧ op ≠ 7 ∧ op ≠ 8 ∧ op ≠ 9 ∧ op ≠ 10) := by omega
      rcases hops with rfl | rfl | hop | hop | ⟨n1, n2, n3, n4, n5, n6, n7, n8, n9, n10⟩
      · rcases Bool.eq_false_or_eq_true (decide (n' ≥ -1000000000)) with h1 | h1
        · rcases Bool.eq_false_or_eq_true (decide (n' ≤ 1000000000)) with h2 | h2
          · have hr := retM h2
            refine AA ?_
            exact W.skipCut 0 .auto ⟨rfl, by omega, by unfold kidsOf inR; rw [h1, h2]; rfl⟩
          · refine AA ?_
            exact R.callPan rfl rfl (panM h2) (bad (hnone (by unfold kidsOf inR; rw [h1, h2]; rfl)) (by omega) hfr)
        · refine AA ?_
          exact R.callPan rfl rfl pan86 (bad (hnone (by unfold kidsOf inR; rw [h1]; rfl)) (by omega) hfr)
      · rcases Bool.eq_false_or_eq_true other with h1 | h1
        · have hr := retM h1
          refine AA ?_
          exact W.skipCut 0 .auto ⟨rfl, by omega, by unfold kidsOf; rw [h1]; rfl⟩
        · refine AA ?_
          exact R.callPan rfl rfl (panM h1) (bad (hnone (by unfold kidsOf; rw [h1]; rfl)) (by omega) hfr)
      · rcases hop with rfl | rfl | rfl <;>
        · refine AA ?_
          exact W.skipCut 0 .auto ⟨rfl, by omega, rfl⟩
      · rcases hop with rfl | rfl | rfl | rfl | rfl <;>
        · refine AA ?_
          exact W.skipCut 2 .auto ⟨rfl, by omega, rfl⟩
      · have e1 : (op == 1) = false := by simpa using n1
        have e2 : (op == 2) = false := by simpa using n2
        have e3 : (op == 3) = false := by simpa using n3
        have e4 : (op == 4) = false := by simpa using n4
        have e5 : (op == 5) = false := by simpa using n5
        have e6 : (op == 6) = false := by simpa using n6
        have e7 : (op == 7) = false := by simpa using n7
        have e8 : (op == 8) = false := by simpa using n8
        have e9 : (op == 9) = false := by simpa using n9
        have e10 : (op == 10) = false := by simpa using n10
        refine AA ?_
        exact R.callPan rfl rfl pan86 (bad (hnone (by unfold kidsOf; simp [n1, n2, n3, n4, n5, n6, n7, n8, n9, n10])) (by omega) hfr)
    rintro k nx2 G2 ⟨rfl, hx2, hk⟩
    rw [hk] at hmk
    dsimp only at hmk
    have hlv : (Trm.ivs kids).length = kids.length := tivs_len kids
    have bad2 : (kids.length ≠ k ∨ (op ≠ 1 ∧ n' ≠ 0)) → calcR (.mk op n' kids) other depth (60 - n) = -1 := fun h => by rw [hmk, if_pos h]
    refine W.cut (X := Unit) (fun _ => [(0, .ptr o 0), (2, .imm (.bool other)), (3, .imm (.int .i64 depth)), (5, .ptr (nx + 0) 0)])
      (fun _ nx3 G3 => G3 = G2 ∧ nx2 ≤ nx3 ∧ kids.length = k ∧ (op = 1 ∨ n' = 0)) ?_ ?_
    · rcases Bool.eq_false_or_eq_true (((Trm.ivs kids).length : Int) == (k : Int)) with hA | hA
      · have hA' : kids.length = k := by rw [hlv] at hA; simp at hA; omega
        rcases Bool.eq_false_or_eq_true (op == 1) with hB | hB
        · have hr := retM (b := true) rfl
          refine AA ?_
          exact W.skipCut () .auto ⟨rfl, by omega, hA', .inl (by simpa using hB)⟩
        · rcases Bool.eq_false_or_eq_true (n' == 0) with hN | hN
          · have hr := retM hN
            refine AA ?_
            exact W.skipCut () .auto ⟨rfl, by omega, hA', .inr (by simpa using hN)⟩
          · refine AA ?_
            exact R.callPan rfl rfl (panM hN) (bad (bad2 (.inr ⟨by simpa using hB, by simpa using hN⟩)) (by omega) hfr)
      · refine AA ?_
        exact R.callPan rfl rfl pan86 (bad (bad2 (.inl (by rw [hlv] at hA; simp at hA; omega))) (by omega) hfr)
    rintro _ nx3 G3 ⟨rfl, hx3, hA, hB⟩
    rw [if_neg (by omega)] at hmk
    refine AA ?_
    refine W.loop (X := Nat × Int) (fun x => [(0, .ptr o 0), (2, .imm (.bool other)), (3, .imm (.int .i64 depth)), (59, .imm (.lst (Trm.ivs kids))), (60, .imm (.int .i64 (Trm.ivs kids).length)), (61, .imm (.int .i64 x.1))])
      (fun x nx2 G2 => G2 o = .box [a, b, cc, d, .imm (.int .i64 (n + x.2))] false ∧ (∀ q, q < nx → q ≠ o → G2 q = G q) ∧ nx + 1 ≤ nx2 ∧ x.1 ≤ kids.length ∧ (1 ≤ x.2 ∧ x.2 ≤ 60 - n) ∧ calcR (.mk op n' kids) other depth (60 - n) = calcRs (kids.drop x.1) other depth (60 - n) x.2)
      (fun x => kids.length - x.1) (0, 1) .auto ⟨h2, hfr, by omega, Nat.zero_le _, by dsimp only; omega, hmk⟩ ?_
    clear h2 hfr hmk bad2 hx2 hx3
    rintro ⟨i, m⟩ nx2 G2 ⟨hGo, hfr, hx, hi, hm, he⟩
    dsimp only at hGo hi hm he ⊢
    rcases Bool.eq_false_or_eq_true (decide ((i : Int) < ((Trm.ivs kids).length : Int))) with hc | hc
    · have hlt : i < kids.length := by have := of_decide_eq_true hc; omega
      obtain ⟨kid, hxk⟩ := at_lt hlt
      have hxi := tivs_at hxk
      have hcl := kid.cells_len
      have ihk := @ih kid (List.mem_of_getElem? hxk)
      have hle := calcR_le kid other (depth + 1) (60 - n - m)
      rw [calcRs_drop hxk] at he
      have hmu : kids.length - (i + 1) < kids.length - i := by omega
      obtain ⟨o', m', k'⟩ := kid
      refine AA ?_
      refine R.callBP rfl rfl rfl rfl rfl ((ihk (n := n + m) (other := other) at_upd (by omega) (by omega) (by omega)).mono fun r hr => ?_)
      rw [show (60 : Int) - (n + m) = 60 - n - m by omega] at hr
      cases r with
      | pan u G' nx' =>
        obtain ⟨rfl, g1, g2, g3⟩ := hr
        rw [if_pos g1] at he
        exact bad he (by omega) fun q h4 h5 => (g3 q (by omega) h5).trans (Eq.trans at_upd (hfr q h4 h5))
      | ret v G' nx' =>
        obtain ⟨rfl, g1, g2, g3, g4⟩ := hr
        rw [if_neg (by omega)] at he
        refine AA ?_
        refine W.skipLop (i + 1, m + calcR (.mk o' m' k') other (depth + 1) (60 - n - m)) hmu .auto ⟨?_, fun q h4 h5 => (g4 q (by omega) h5).trans (Eq.trans at_upd (hfr q h4 h5)), by omega, hlt, ?_, he⟩
        · rw [g2, Int.add_assoc]
        · dsimp only
          have := hle g1
          omega
    · have hge : kids.length ≤ i := by have := of_decide_eq_false hc; omega
      rw [List.drop_eq_nil_of_le hge, calcRs] at he
      rw [he]
      refine AA ?_
      exact W.skipFinP rfl ⟨rfl, by omega, hGo, by omega, hfr⟩
end Go.Abs

/- Programs that are looked at: maps of numbers and of shapes. -/
open Go Go.Abs
namespace Go.Abs
set_option maxRecDepth 100000
set_option maxHeartbeats 4000000
instance fnis87 : FnIs CC 87 := ⟨rfl, fun _ => rfl⟩
instance fnis88 : FnIs CC 88 := ⟨rfl, fun _ => rfl⟩
instance fnis75 : FnIs CC 75 := ⟨rfl, fun _ => rfl⟩
instance fnis76 : FnIs CC 76 := ⟨rfl, fun _ => rfl⟩

/-- What expressions of a kind have, as the program has it. -/
def shpT (s : Shp) : IV := .agg [.int .i64 s.kids, .int .i64 s.calcs, .bool s.name, .bool s.fold, .int .i64 s.low, .int .i64 s.high]
def sOr (op : Int) : Shp := (shapeR op).getD ⟨0, 0, false, false, 0, 0⟩
def shapeKeys : List IV := (List.range 15).map fun (i : Nat) => .int .i64 (i + 1)
def shapeVals : List IV := (List.range 15).map fun (i : Nat) => shpT (sOr (i + 1))
def shapesIV : IV := .fmp shapeKeys shapeVals
theorem ret87 : Ret CC 87 [] shapesIV := Ret.reckon (n := 60) (by kernel_rfl)

theorem keyFind_none {k : IV} : ∀ {l : List IV}, (∀ x ∈ l, scalarEq k x = some false) → keyFind k l = some none
  | [], _ => rfl
  | x :: r, h => by
    unfold keyFind
    rw [h x (by simp), keyFind_none fun y hy => h y (by simp [hy])]
    rfl
theorem shLook (op : Int) : lookIs (some ty55) (some ty137) (some (shapeKeys, shapeVals.map .imm)) (.int .i64 op) true (.imm (.tup [shpT (sOr op), .bool (shapeR op).isSome])) := by
  refine ⟨rfl, ?_⟩
  rcases ops15 op with rfl | rfl | rfl | rfl | rfl | rfl | rfl | rfl | rfl | rfl | rfl | rfl | rfl | rfl | rfl | ⟨n1, n2, n3, n4, n5, n6, n7, n8, n9, n10, n11, n12, n13, n14, n15⟩
  iterate 15 exact .inl ⟨_, _, by rfl, by rfl, by rfl⟩
  have hs : shapeR op = none := by unfold shapeR; simp [n1, n2, n3, n4, n5, n6, n7, n8, n9, n10, n11, n12, n13, n14, n15]
  refine .inr ⟨?_, ?_⟩
  · refine keyFind_none fun x hx => ?_
    simp only [shapeKeys, List.mem_map, List.mem_range] at hx
    obtain ⟨i, hi, rfl⟩ := hx
    have : ¬ op = (i : Int) + 1 := by omega
    simp [scalarEq, this]
  · unfold sOr; rw [hs]; rfl

/-- The numbers of names. -/
def numIV (l : List Str) : IV := .fmp (l.map sv) ((List.range l.length).map natIV)
def idxN (l : List Str) (s : Str) : Nat := (l.findIdx? fun x => s == x).getD 0
theorem findIdx_contains (s : Str) : ∀ l : List Str, (l.findIdx? fun x => s == x).isSome = l.contains s
  | [] => rfl
  | x :: r => by
    rw [List.findIdx?_cons, List.contains_cons]
    cases h : s == x with
    | true => simp
    | false =>
      simp only [Bool.false_or]
      rw [← findIdx_contains s r]
      cases (r.findIdx? fun x => s == x) <;> rfl
theorem findIdx_lt {s : Str} {j : Nat} : ∀ {l : List Str}, (l.findIdx? fun x => s == x) = some j → j < l.length
  | [], h => by cases h
  | x :: r, h => by
    rw [List.findIdx?_cons] at h
    split at h
    · cases h; simp
    · cases hr : r.findIdx? fun x => s == x with
      | none => rw [hr] at h; cases h
      | some k =>
        rw [hr] at h
        cases h
        have := findIdx_lt hr
        simp; omega
theorem numLook (l : List Str) (s : Str) : lookIs (some ty9) (some ty3) (some (l.map sv, ((List.range l.length).map natIV).map .imm)) (sv s) true (.imm (.tup [natIV (idxN l s), .bool (l.contains s)])) := by
  refine ⟨rfl, ?_⟩
  rw [keyFind_sv, ← findIdx_contains]
  unfold idxN
  cases h : l.findIdx? fun x => s == x with
  | none => exact .inr ⟨rfl, rfl⟩
  | some j =>
    have := findIdx_lt h
    refine .inl ⟨j, .imm (natIV j), rfl, ?_, rfl⟩
    simp [this]
theorem numLook0 (l : List Str) (s : Str) : lookIs (some ty9) (some ty3) (some (l.map sv, ((List.range l.length).map natIV).map .imm)) (sv s) false (.imm (natIV (idxN l s))) := by
  refine ⟨rfl, ?_⟩
  rw [keyFind_sv]
  unfold idxN
  cases h : l.findIdx? fun x => s == x with
  | none => exact .inr ⟨rfl, rfl⟩
  | some j =>
    have := findIdx_lt h
    refine .inl ⟨j, .imm (natIV j), rfl, ?_, rfl⟩
    simp [this]
theorem idxN_take {l : List Str} {s : Str} (k : Nat) : (l.take k).contains s = (l.contains s && decide (((idxN l s : Nat) : Int) < (k : Int))) := by
  induction l generalizing k with
  | nil => simp
  | cons x r ih =>
    cases k with
    | zero => simp
    | succ k =>
      rw [List.take_succ_cons, List.contains_cons, List.contains_cons]
      unfold idxN
      rw [List.findIdx?_cons]
      cases h : s == x with
      | true => simp
      | false =>
        simp only [Bool.false_or, Bool.false_eq_true, if_false]
        rw [ih k, ← findIdx_contains]
        unfold idxN
        cases r.findIdx? fun x => s == x with
        | none => simp
        | some j =>
          simp only [Option.isSome_some, Bool.true_and, Option.getD_some, Option.map_some]
          apply decide_eq_decide.2
          omega


/-- What others a map knows. -/
def Others (ov : IV) (others : List Str) : Prop := ∀ (G : Nat → Obj) (s : Str), ∃ u : IV, lookIs (some ty9) (some ty3) (mapKV G (.imm ov)) (sv s) true (.imm (.tup [u, .bool (others.contains s)]))
theorem others_nil : Others .nilmap [] := fun _ _ => ⟨.int .i64 0, rfl, .inr ⟨rfl, rfl⟩⟩
theorem others_num (l : List Str) : Others (numIV l) l := fun _ s => ⟨_, numLook l s⟩
def okAt (others l : List Str) (i : Nat) : Bool := nameOk (l.getD i []) && !(l.take i).contains (l.getD i []) && !others.contains (l.getD i [])
def fresh (others l : List Str) : Bool := (List.range l.length).all (okAt others l)
theorem fresh_bad {others l : List Str} {i : Nat} (hi : i < l.length) (h : okAt others l i = false) : fresh others l = false :=
  List.all_eq_false.2 ⟨i, by simpa using hi, by rw [h]; decide⟩
theorem numAt {l : List Str} {i : Nat} {s : Str} (h : l[i]? = some s) : (l.take (i + 1)).map sv = (l.take i).map sv ++ [sv s] ∧ ((List.range (i + 1)).map natIV).map AV.imm = ((List.range i).map natIV).map AV.imm ++ [.imm (natIV i)] := by
  refine ⟨?_, ?_⟩
  · rw [List.take_add_one, h]; simp
  · rw [List.range_succ]; simp

theorem cal88 (l others : List Str) (ov : IV) (ho : Others ov others) (hl : l.length ≤ 9223372036854775807) (hls : ∀ s ∈ l, s.length ≤ 9223372036854775807) :
    CalP CC 88 ([.lst (l.map sv), ov].map .imm) (fun _ => .gone) 0 fun
      | .ret v G' _ => fresh others l = true ∧ ∃ ids, peek G' pkDepth v = some (numIV l, ids)
      | .pan u _ _ => u = unf ∧ fresh others l = false := by
  have hlm : (l.map sv).length = l.length := List.length_map ..
  refine CalP.of (fn := Go.Proofs.Try.f88) (by kernel_rfl) rfl rfl ?_
  refine AA ?_
  refine W.loop (X := Nat) (fun i => [(1, .imm ov), (5, .map 1), (13, .imm (.lst (l.map sv))), (14, .imm (.int .i64 (l.map sv).length)), (15, .imm (.int .i64 i))])
    (fun i _ G => G 1 = .mp ((l.take i).map sv) (((List.range i).map natIV).map .imm) false ∧ i ≤ l.length ∧ (List.range i).all (okAt others l) = true)
    (fun i => l.length - i) 0 .auto ⟨rfl, Nat.zero_le _, rfl⟩ ?_
  rintro i nx G ⟨hG, hi, hall⟩
  rcases Bool.eq_false_or_eq_true (decide ((i : Int) < ((l.map sv).length : Int))) with hc | hc
  · have hlt : i < l.length := by have := of_decide_eq_true hc; omega
    obtain ⟨s, hx⟩ := at_lt hlt
    have hxi := at_map sv hx
    have hmu : l.length - (i + 1) < l.length - i := by omega
    have hr10 := ret10 s (hls s (List.mem_of_getElem? hx))
    have hgd : l.getD i [] = s := by rw [List.getD_eq_getElem?_getD, hx]; rfl
    have hok : okAt others l i = (nameOk s && !(l.take i).contains s && !others.contains s) := by unfold okAt; rw [hgd]
    obtain ⟨u, h2⟩ := ho G s
    have h1 := numLook (l.take i) s
    rw [List.length_take, Nat.min_eq_left hi] at h1
    have h1 : lookIs (some ty9) (some ty3) (mapKV G (.map 1)) (sv s) true (.imm (.tup [natIV (idxN (l.take i) s), .bool ((l.take i).contains s)])) := by
      simp only [mapKV, hG]; exact h1
    have hkey : (l.take i).contains s = false → keyFind (sv s) ((l.take i).map sv) = some none := fun h => by
      rw [← findIdx_contains] at h
      rw [keyFind_sv]
      cases h' : (l.take i).findIdx? fun x => s == x with
      | none => rfl
      | some j => rw [h'] at h; cases h
    have hno : okAt others l i = false → fresh others l = false := fresh_bad hlt
    rcases Bool.eq_false_or_eq_true (nameOk s) with hA | hA
    · rcases Bool.eq_false_or_eq_true ((l.take i).contains s) with hB | hB
      · have hB' : (!(l.take i).contains s) = false := by rw [hB]; rfl
        refine AA ?_
        exact R.callPan rfl rfl pan86 (panTo ⟨rfl, hno (by rw [hok, hB]; simp)⟩)
      · have hB' : (!(l.take i).contains s) = true := by rw [hB]; rfl
        rcases Bool.eq_false_or_eq_true (!others.contains s) with hC | hC
        · have hr := retM hC
          refine AA ?_
          refine R.opN1 (O.mapNew rfl inferInstance rfl rfl rfl hG rfl (hkey hB)) ?_
          refine AA ?_
          refine W.skipLop (i + 1) hmu .auto ⟨?_, hlt, ?_⟩
          · obtain ⟨e1, e2⟩ := numAt hx
            rw [upd_same, e1, e2]; rfl
          · rw [List.range_succ, List.all_append, hall]
            rw [List.all_cons, hok, hA, hB', hC]; rfl
        · refine AA ?_
          exact R.callPan rfl rfl (panM hC) (panTo ⟨rfl, hno (by rw [hok, hC]; simp)⟩)
    · refine AA ?_
      exact R.callPan rfl rfl pan86 (panTo ⟨rfl, hno (by rw [hok, hA]; simp)⟩)
  · have hge : l.length ≤ i := by have := of_decide_eq_false hc; omega
    have he : i = l.length := by omega
    subst he
    refine AA ?_
    rw [List.take_length] at hG
    exact W.retFinP rfl ⟨hall, peek_mp hG⟩
theorem CalP.split {C : Cfg} {f : FuncId} {ivs : List IV} {x u : IV} {ok : Bool} (hu : u.scalar = true) (h : CalP C f (ivs.map .imm) (fun _ => .gone) 0 fun
      | .ret v G' _ => ok = true ∧ ∃ ids, peek G' pkDepth v = some (x, ids)
      | .pan w _ _ => w = u ∧ ok = false) : (ok = true → Ret C f ivs x) ∧ (ok = false → RetPan C f ivs u) := by
  obtain ⟨n, r, h1, h2⟩ := h
  cases r with
  | ret v G' nx' =>
    obtain ⟨h3, ids, h4⟩ := h2
    exact ⟨fun _ => ⟨n, v, G', nx', _, ids, h1, h4⟩, fun h => by rw [h3] at h; cases h⟩
  | pan w G' nx' =>
    obtain ⟨rfl, h3⟩ := h2
    exact ⟨(fun h => by rw [h3] at h; cases h), fun _ => ⟨n, G', nx', _, h1, hu⟩⟩
theorem ret88 {l others : List Str} {ov : IV} (ho : Others ov others) (hl : l.length ≤ 9223372036854775807) (hls : ∀ s ∈ l, s.length ≤ 9223372036854775807) :
    (fresh others l = true → Ret CC 88 [.lst (l.map sv), ov] (numIV l)) ∧ (fresh others l = false → RetPan CC 88 [.lst (l.map sv), ov] unf) :=
  CalP.split rfl (cal88 l others ov ho hl hls)

/-- each, of a list whose elements' images are known. -/
theorem ret76 (d : Dfn) : Ret CC 76 [d.iv] (sv d.name) := by
  obtain ⟨nm, ⟨o', s', n', f', c', k'⟩⟩ := d
  refine Ret.of (fn := Go.Proofs.Try.f76) (by kernel_rfl) rfl rfl ?_
  refine AA ?_
  exact W.retFin1 rfl ⟨[], rfl⟩
theorem ret75 (l : List Dfn) (hl : l.length ≤ 4294967296) : Ret CC 75 [.lst (l.map Dfn.iv), .fn (.func 76) []] (.lst ((l.map Dfn.name).map sv)) := by
  have hlm : (l.map Dfn.iv).length = l.length := List.length_map ..
  refine Ret.of (fn := Go.Proofs.Try.f75) (by kernel_rfl) rfl rfl ?_
  refine AA ?_
  refine W.loop (X := Nat × AV) (fun x => [(1, .imm (.fn (.func 76) [])), (8, .imm (.lst (l.map Dfn.iv))), (9, .imm (.int .i64 (l.map Dfn.iv).length)), (10, .imm (.int .i64 x.1)), (5, x.2)])
    (fun x nx G => x.1 ≤ l.length ∧ Own 9 1 0 nx (((l.map Dfn.name).take x.1).map sv) G x.2)
    (fun x => l.length - x.1) (0, .nils) .auto ⟨Nat.zero_le _, .nil ..⟩ ?_
  rintro ⟨i, v⟩ nx G ⟨hi, ho⟩
  dsimp only at hi ho ⊢
  rcases Bool.eq_false_or_eq_true (decide ((i : Int) < ((l.map Dfn.iv).length : Int))) with hc | hc
  · have hlt : i < l.length := by have := of_decide_eq_true hc; omega
    obtain ⟨d, hx⟩ := at_lt hlt
    have hxi := at_map Dfn.iv hx
    have hdc := d.cells_len
    have hmu : l.length - (i + 1) < l.length - i := by omega
    have hr := ret76 d
    have htk : ((l.map Dfn.name).take (i + 1)).map sv = ((l.map Dfn.name).take i).map sv ++ [sv d.name] := by
      rw [List.take_add_one, List.getElem?_map, hx]; simp
    obtain ⟨nm, ⟨o', s', n', f', c', k'⟩⟩ := d
    refine AA ?_
    refine R.app1 ho at_upd (by simp only [List.length_map, List.length_take, most]; omega) fun v' G' ho' hG' => ?_
    rw [← htk] at ho'
    refine AA ?_
    exact W.skipLop (i + 1, v') hmu .auto ⟨hlt, ho'.fr⟩
  · have hge : l.length ≤ i := by have := of_decide_eq_false hc; omega
    rw [List.take_of_length_le (by simpa using hge)] at ho
    refine AA ?_
    exact W.retFin1 rfl ho.peek
end Go.Abs

/- Programs that are looked at: expressions. -/
open Go Go.Abs
namespace Go.Abs
set_option maxRecDepth 100000
set_option maxHeartbeats 4000000

theorem shapeR_sOr {op : Int} {s : Shp} (h : shapeR op = some s) : sOr op = s := by unfold sOr; rw [h]; rfl

theorem cal89 {o : Nat} {srcs names : List Str} {ahead : Nat} {e : Exp} (hf : e.Fits) : ∀ {nx : Nat} {G : Nat → Obj} {n depth : Int}, G o = .box [.imm (numIV srcs), .imm (numIV names), .imm shapesIV, .imm (.int .i64 ahead), .imm (.int .i64 n)] false → o < nx → (0 ≤ n ∧ n ≤ 60) → (-1000 ≤ depth ∧ depth ≤ 1000) →
    CalP CC 89 [.ptr o 0, .imm e.iv, .imm (.int .i64 depth)] G nx (SPost o (.imm (numIV srcs)) (.imm (numIV names)) (.imm shapesIV) (.imm (.int .i64 ahead)) n (expR srcs names ahead e depth (60 - n)) G nx) := by
  induction hf with
  | mk op name n' fold calcs kids hnm hw hc hk hcs hks ih =>
  intro nx G n depth hG ho hn hd
  have hc' : calcs.length ≤ 9223372036854775807 := hc
  have hk' : kids.length ≤ 9223372036854775807 := hk
  have hlk := ivs_len kids
  have hlc := tivs_len calcs
  refine CalP.of (fn := Go.Proofs.Try.f89) (by kernel_rfl) rfl rfl ?_
  refine AA ?_
  refine R.callBP rfl rfl rfl rfl rfl ((cal103 (o := o) (n := n) at_upd (by omega) (by omega)).mono fun r hr => ?_)
  cases r with
  | pan u G' nx' =>
    obtain ⟨rfl, h1, h2, h3⟩ := hr
    have e : expR srcs names ahead (.mk op name n' fold calcs kids) depth (60 - n) = -1 := by
      rw [expR]
      split
      · rfl
      · rw [if_pos]
        unfold oneR at h1
        split at h1
        · assumption
        · omega
    rw [e]
    exact panTo ⟨rfl, by decide, by omega, fun q h4 h5 => (h3 q (by omega) h5).trans at_upd⟩
  | ret v G' nx' =>
    obtain ⟨rfl, h1, h2, h3, h4⟩ := hr
    dsimp only
    have hor : oneR depth (60 - n) = 1 := by unfold oneR at h1 ⊢; split <;> simp_all
    have hdl : ¬ (depth > 10 ∨ (60 - n) < 1) := by unfold oneR at h1; split at h1 <;> omega
    rw [hor] at h2
    have hB : G' (nx + 0) = .box [.imm (.int .i64 op), .imm (sv name), .imm (.int .i64 n'), .imm (.int .i64 fold), .imm (.lst (Trm.ivs calcs)), .imm (.lst (Exp.ivs kids))] false := (h4 _ (by omega) (by omega)).trans at_upd
    have hfr : ∀ q, q < nx → q ≠ o → G' q = G q := fun q h5 h6 => (h4 q (by omega) h6).trans at_upd
    have hnx : nx + 1 ≤ nx' := by omega
    clear h3 h4 h1 hor
    have bad : expR srcs names ahead (.mk op name n' fold calcs kids) depth (60 - n) = -1 → ∀ {G2 : Nat → Obj} {nx2 : Nat} {l : Env}, nx + 1 ≤ nx2 → (∀ q, q < nx → q ≠ o → G2 q = G q) →
        ∀ t, Agree t l → finP CC Go.Proofs.Try.f89.results.toList (SPost o (.imm (numIV srcs)) (.imm (numIV names)) (.imm shapesIV) (.imm (.int .i64 ahead)) n (expR srcs names ahead (.mk op name n' fold calcs kids) depth (60 - n)) G nx) (.pan unf ⟨t, G2, nx2, [], .no⟩) := by
      intro e G2 nx2 l h1 h2
      rw [e]
      exact panTo ⟨rfl, by decide, by omega, h2⟩
    have hL := shLook op
    have hL1 := numLook srcs name
    have hL2 := numLook names name
    have hnone : shapeR op = none → expR srcs names ahead (.mk op name n' fold calcs kids) depth (60 - n) = -1 := fun h => by rw [expR, h]
    rcases Bool.eq_false_or_eq_true (shapeR op).isSome with hS | hS
    rotate_left
    · refine AN ?_
      exact R.callPan rfl rfl pan86 (bad (hnone (by simpa using hS)) (by omega) fun q h5 h6 => Eq.trans at_upd (hfr q h5 h6))
    obtain ⟨s, hs⟩ := Option.isSome_iff_exists.1 hS
    rw [shapeR_sOr hs] at hL
    have hbad : headIs srcs names ahead s op name n' fold calcs.length kids.length = false → expR srcs names ahead (.mk op name n' fold calcs kids) depth (60 - n) = -1 := fun h => by
      rw [expR, hs]; simp only [h]; split <;> rfl
    rcases Bool.eq_false_or_eq_true (((Exp.ivs kids).length : Int) == (s.kids : Int)) with hD | hD
    rotate_left
    · refine AN ?_
      exact R.callPan rfl rfl pan86 (bad (hbad (by rw [hlk] at hD; simp at hD; unfold headIs; simp; omega)) (by omega) fun q h5 h6 => Eq.trans at_upd (hfr q h5 h6))
    rcases Bool.eq_false_or_eq_true (((Trm.ivs calcs).length : Int) == (s.calcs : Int)) with hC | hC
    rotate_left
    · refine AN ?_
      exact R.callPan rfl rfl pan86 (bad (hbad (by rw [hlc] at hC; simp at hC; unfold headIs; simp; omega)) (by omega) fun q h5 h6 => Eq.trans at_upd (hfr q h5 h6))
    rcases Bool.eq_false_or_eq_true (s.name == !(name == [])) with hE | hE
    rotate_left
    · refine AN ?_
      exact R.callPan rfl rfl pan86 (bad (hbad (by unfold headIs; rw [hE]; simp)) (by omega) fun q h5 h6 => Eq.trans at_upd (hfr q h5 h6))
    rcases Bool.eq_false_or_eq_true (decide (n' ≥ s.low)) with hF | hF
    rotate_left
    · refine AN ?_
      exact R.callPan rfl rfl pan86 (bad (hbad (by unfold headIs inR; rw [hF]; simp)) (by omega) fun q h5 h6 => Eq.trans at_upd (hfr q h5 h6))
    rcases Bool.eq_false_or_eq_true (decide (n' ≤ s.high)) with hF2 | hF2
    rotate_left
    · refine AN ?_
      exact R.callPan rfl rfl (panM hF2) (bad (hbad (by unfold headIs inR; rw [hF, hF2]; simp)) (by omega) fun q h5 h6 => Eq.trans at_upd (hfr q h5 h6))
    have hC' : calcs.length = s.calcs := by rw [hlc] at hC; simp at hC; omega
    have hD' : kids.length = s.kids := by rw [hlk] at hD; simp at hD; omega
    have hF' : inR n' s.low s.high = true := by unfold inR; rw [hF, hF2]; rfl
    have hfold : foldIs s fold = false → headIs srcs names ahead s op name n' fold calcs.length kids.length = false := fun h => by unfold headIs; rw [h]; simp
    have hname : foldIs s fold = true → headIs srcs names ahead s op name n' fold calcs.length kids.length = nameIs srcs names ahead op name := fun h => by
      unfold headIs; rw [hC', hD', hE, hF', h]; simp
    have hr := retM hF2
    refine A1 ?_
    refine A1 ?_
    refine A1 ?_
    refine W.cut (X := Unit) (fun _ => [(0, .ptr o 0), (2, .imm (.int .i64 depth)), (4, .ptr (nx + 0) 0)])
      (fun _ nx2 G2 => nx' ≤ nx2 ∧ G2 o = G' o ∧ G2 (nx + 0) = G' (nx + 0) ∧ (∀ q, q < nx → q ≠ o → G2 q = G q) ∧ foldIs s fold = true) ?_ ?_
    · clear hL1 hL2 hr
      cases hFo : s.fold with
      | true =>
        have hfi : foldIs s fold = (decide (fold ≥ 1) && decide (fold ≤ 4)) := by unfold foldIs; rw [hFo]; rfl
        rcases Bool.eq_false_or_eq_true (decide (fold ≥ 1)) with hI | hI
        · rcases Bool.eq_false_or_eq_true (decide (fold ≤ 4)) with hJ | hJ
          · have hr := retM (b := true) rfl
            refine AN ?_
            exact W.skipCut () .auto ⟨by omega, at_upd, at_upd, fun q h5 h6 => Eq.trans at_upd (hfr q h5 h6), by rw [hfi, hI, hJ]; rfl⟩
          · have hFn : (!s.fold) = false := by rw [hFo]; rfl
            refine AN ?_
            exact R.callPan rfl rfl pan86 (bad (hbad (hfold (by rw [hfi, hJ]; simp))) (by omega) fun q h5 h6 => Eq.trans at_upd (hfr q h5 h6))
        · have hFn : (!s.fold) = false := by rw [hFo]; rfl
          refine AN ?_
          exact R.callPan rfl rfl pan86 (bad (hbad (hfold (by rw [hfi, hI]; simp))) (by omega) fun q h5 h6 => Eq.trans at_upd (hfr q h5 h6))
      | false =>
        have hFn : (!s.fold) = true := by rw [hFo]; rfl
        have hfi : foldIs s fold = (fold == 0) := by unfold foldIs; rw [hFo]; rfl
        rcases Bool.eq_false_or_eq_true (fold == 0) with hI | hI
        · have hr := retM hI
          refine AN ?_
          exact W.skipCut () .auto ⟨by omega, at_upd, at_upd, fun q h5 h6 => Eq.trans at_upd (hfr q h5 h6), by rw [hfi]; exact hI⟩
        · refine AN ?_
          exact R.callPan rfl rfl (panM hI) (bad (hbad (hfold (by rw [hfi]; exact hI))) (by omega) fun q h5 h6 => Eq.trans at_upd (hfr q h5 h6))
    rintro _ nx2 G2 ⟨hx2, hG2o, hG2e, hfr2, hfo⟩
    rw [h2] at hG2o
    rw [hB] at hG2e
    have hname := hname hfo
    have hmk : expR srcs names ahead (.mk op name n' fold calcs kids) depth (60 - n) = if nameIs srcs names ahead op name then (if calcRs calcs (other op) 0 (60 - n) 1 < 0 then -1 else expRs srcs names ahead kids depth (60 - n) (calcRs calcs (other op) 0 (60 - n) 1)) else -1 := by
      rw [expR, hs]; simp only [if_neg (show ¬ (depth > 10 ∨ (60 - n) < 1) by omega), hname]
    generalize expR srcs names ahead (.mk op name n' fold calcs kids) depth (60 - n) = res at hmk bad ⊢
    clear hbad hname hfold hnone hL hr hF hF2 hE hC hD hS hfo hB h2
    refine A1 ?_
    refine A1 ?_
    refine W.cut (X := Unit) (fun _ => [(0, .ptr o 0), (2, .imm (.int .i64 depth)), (4, .ptr (nx + 0) 0)])
      (fun _ nx3 G3 => nx2 ≤ nx3 ∧ G3 = G2 ∧ nameIs srcs names ahead op name = true) ?_ ?_
    · have hno : nameIs srcs names ahead op name = false → res = -1 := fun h => by rw [hmk, h]; rfl
      by_cases e1 : op = 1
      · subst e1
        have hni : nameIs srcs names ahead 1 name = srcs.contains name := rfl
        rcases Bool.eq_false_or_eq_true (srcs.contains name) with hI | hI
        · have hr := retM hI
          refine AN ?_
          exact W.skipCut () .auto ⟨by omega, rfl, by rw [hni]; exact hI⟩
        · refine AN ?_
          exact R.callPan rfl rfl (panM hI) (bad (hno (by rw [hni]; exact hI)) (by omega) hfr2)
      by_cases e2 : op = 2
      · subst e2
        have hni : nameIs srcs names ahead 2 name = (names.contains name && decide (((idxN names name : Nat) : Int) < (ahead : Int))) := idxN_take ahead
        rcases Bool.eq_false_or_eq_true (names.contains name) with hI | hI
        · rcases Bool.eq_false_or_eq_true (decide (((idxN names name : Nat) : Int) < (ahead : Int))) with hJ | hJ
          · have hr := retM hJ
            refine AN ?_
            exact W.skipCut () .auto ⟨by omega, rfl, by rw [hni, hI, hJ]; rfl⟩
          · refine AN ?_
            exact R.callPan rfl rfl (panM hJ) (bad (hno (by rw [hni, hI, hJ]; rfl)) (by omega) hfr2)
        · refine AN ?_
          exact R.callPan rfl rfl pan86 (bad (hno (by rw [hni, hI]; rfl)) (by omega) hfr2)
      by_cases e3 : op = 3
      · subst e3
        have hni : nameIs srcs names ahead 3 name = names.contains name := rfl
        rcases Bool.eq_false_or_eq_true (names.contains name) with hI | hI
        · have hr := retM hI
          refine AN ?_
          exact W.skipCut () .auto ⟨by omega, rfl, by rw [hni]; exact hI⟩
        · refine AN ?_
          exact R.callPan rfl rfl (panM hI) (bad (hno (by rw [hni]; exact hI)) (by omega) hfr2)
      have hn : nameIs srcs names ahead op name = true := by unfold nameIs; simp [e1, e2, e3]
      have e1' : (op == 1) = false := by simpa using e1
      have e2' : (op == 2) = false := by simpa using e2
      have e3' : (op == 3) = false := by simpa using e3
      refine AN ?_
      exact W.skipCut () .auto ⟨by omega, rfl, hn⟩
    rintro _ nx3 G3 ⟨hx3, rfl, hni⟩
    rw [hni, if_pos rfl] at hmk
    clear hL1 hL2
    have hGe := hG2e
    refine AN ?_
    refine W.loop (X := Nat × Int) (fun x => [(0, .ptr o 0), (2, .imm (.int .i64 depth)), (4, .ptr (nx + 0) 0), (137, .imm (.lst (Trm.ivs calcs))), (138, .imm (.int .i64 (Trm.ivs calcs).length)), (139, .imm (.int .i64 x.1))])
      (fun x nx4 G4 => nx + 1 ≤ nx4 ∧ G4 o = .box [.imm (numIV srcs), .imm (numIV names), .imm shapesIV, .imm (.int .i64 ahead), .imm (.int .i64 (n + x.2))] false ∧ G4 (nx + 0) = .box [.imm (.int .i64 op), .imm (sv name), .imm (.int .i64 n'), .imm (.int .i64 fold), .imm (.lst (Trm.ivs calcs)), .imm (.lst (Exp.ivs kids))] false ∧
        (∀ q, q < nx → q ≠ o → G4 q = G q) ∧ x.1 ≤ calcs.length ∧ (1 ≤ x.2 ∧ x.2 ≤ 60 - n) ∧ res = (if calcRs (calcs.drop x.1) (other op) 0 (60 - n) x.2 < 0 then -1 else expRs srcs names ahead kids depth (60 - n) (calcRs (calcs.drop x.1) (other op) 0 (60 - n) x.2)))
      (fun x => calcs.length - x.1) (0, 1) .auto ⟨by omega, hG2o, hGe, hfr2, Nat.zero_le _, by dsimp only; omega, hmk⟩ ?_
    clear hG2o hG2e hGe hfr2 hmk hx2 hx3 hni hfr
    rintro ⟨i, m⟩ nx4 G4 ⟨hx4, hGo, hGe, hfr, hi, hm, he⟩
    dsimp only at hGo hi hm he ⊢
    rcases Bool.eq_false_or_eq_true (decide ((i : Int) < ((Trm.ivs calcs).length : Int))) with hc | hc
    · have hlt : i < calcs.length := by have := of_decide_eq_true hc; omega
      obtain ⟨kid, hxk⟩ := at_lt hlt
      have hxi := tivs_at hxk
      have hcl := kid.cells_len
      have ihk := fun (oth : Bool) (nx : Nat) (G : Nat → Obj) (n : Int) h1 h2 h3 => @cal104 o (.imm (numIV srcs)) (.imm (numIV names)) (.imm shapesIV) (.imm (.int .i64 ahead)) kid (hcs kid (List.mem_of_getElem? hxk)) nx G n 1 oth h1 h2 h3 (by omega)
      have hle := calcR_le kid (other op) 1 (60 - n - m)
      rw [calcRs_drop hxk, show (0 : Int) + 1 = 1 from rfl] at he
      have hmu : calcs.length - (i + 1) < calcs.length - i := by omega
      obtain ⟨o', m', k'⟩ := kid
      have go : ∀ oth : Bool, other op = oth → ∀ {nx5 : Nat} {G5 : Nat → Obj} (hx5 : nx4 ≤ nx5) (hGo : G5 o = .box [.imm (numIV srcs), .imm (numIV names), .imm shapesIV, .imm (.int .i64 ahead), .imm (.int .i64 (n + m))] false), CalP CC 104 [.ptr o 0, .imm (Trm.mk o' m' k').iv, .imm (.bool oth), .imm (.int .i64 1)] G5 nx5
        (SPost o (.imm (numIV srcs)) (.imm (numIV names)) (.imm shapesIV) (.imm (.int .i64 ahead)) (n + m) (calcR (.mk o' m' k') (other op) 1 (60 - n - m)) G5 nx5) := by
        intro oth ho2 nx5 G5 h5 h6
        subst ho2
        have := ihk (other op) nx5 G5 (n + m) h6 (by omega) (by omega)
        rwa [show (60 : Int) - (n + m) = 60 - n - m by omega] at this
      clear ihk
      have fin : ∀ {r : CR} {nx5 : Nat} {G5 : Nat → Obj}, nx4 ≤ nx5 → (∀ q, q < nx4 → q ≠ o → G5 q = G4 q) → SPost o (.imm (numIV srcs)) (.imm (numIV names)) (.imm shapesIV) (.imm (.int .i64 ahead)) (n + m) (calcR (.mk o' m' k') (other op) 1 (60 - n - m)) G5 nx5 r → match r with
          | .ret v G6 nx6 => v = .imm (.tup []) ∧ nx + 1 ≤ nx6 ∧ G6 o = .box [.imm (numIV srcs), .imm (numIV names), .imm shapesIV, .imm (.int .i64 ahead), .imm (.int .i64 (n + (m + calcR (.mk o' m' k') (other op) 1 (60 - n - m))))] false ∧ G6 (nx + 0) = .box [.imm (.int .i64 op), .imm (sv name), .imm (.int .i64 n'), .imm (.int .i64 fold), .imm (.lst (Trm.ivs calcs)), .imm (.lst (Exp.ivs kids))] false ∧
              (∀ q, q < nx → q ≠ o → G6 q = G q) ∧ (1 ≤ m + calcR (.mk o' m' k') (other op) 1 (60 - n - m) ∧ m + calcR (.mk o' m' k') (other op) 1 (60 - n - m) ≤ 60 - n) ∧ ¬ (calcR (.mk o' m' k') (other op) 1 (60 - n - m) < 0)
          | .pan u G6 nx6 => u = unf ∧ nx + 1 ≤ nx6 ∧ (∀ q, q < nx → q ≠ o → G6 q = G q) ∧ calcR (.mk o' m' k') (other op) 1 (60 - n - m) < 0 := by
        intro r nx5 G5 h5 h6 hr
        cases r with
        | pan u G6 nx6 =>
          obtain ⟨g0, g1, g2, g3⟩ := hr
          exact ⟨g0, by omega, fun q h7 h8 => (g3 q (by omega) h8).trans ((h6 q (by omega) h8).trans (hfr q h7 h8)), g1⟩
        | ret v G6 nx6 =>
          obtain ⟨g0, g1, g2, g3, g4⟩ := hr
          have := hle g1
          exact ⟨g0, by omega, by rw [g2, Int.add_assoc], (g4 _ (by omega) (by omega)).trans ((h6 _ (by omega) (by omega)).trans hGe), fun q h7 h8 => (g4 q (by omega) h8).trans ((h6 q (by omega) h8).trans (hfr q h7 h8)), by omega, by omega⟩
      rcases Bool.eq_false_or_eq_true (op == 12) with h12 | h12
      all_goals
        refine AN ?_
        refine R.callBP rfl rfl rfl rfl rfl ((go _ (by unfold other; rw [h12]; rfl) (by omega) at_upd).mono fun r hr => ?_)
        have hf := fin (by omega) (fun q h1 h2 => at_upd) hr
        clear hr
        cases r with
        | pan u G6 nx6 =>
          obtain ⟨rfl, g1, g2, g3⟩ := hf
          rw [if_pos g3] at he
          exact bad (by rw [he]; rfl) g1 g2
        | ret v G6 nx6 =>
          obtain ⟨rfl, g1, g2, g3, g4, g5, g6⟩ := hf
          rw [if_neg g6] at he
          refine AN ?_
          exact W.skipLop (i + 1, m + calcR (.mk o' m' k') (other op) 1 (60 - n - m)) hmu .auto ⟨by omega, g2, g3, g4, hlt, g5, he⟩
    have hge : calcs.length ≤ i := by have := of_decide_eq_false hc; omega
    rw [List.drop_eq_nil_of_le hge, calcRs, if_neg (by omega)] at he
    refine AN ?_
    refine W.loop (X := Nat × Int) (fun x => [(0, .ptr o 0), (2, .imm (.int .i64 depth)), (156, .imm (.lst (Exp.ivs kids))), (157, .imm (.int .i64 (Exp.ivs kids).length)), (158, .imm (.int .i64 x.1))])
      (fun x nx4 G4 => nx + 1 ≤ nx4 ∧ G4 o = .box [.imm (numIV srcs), .imm (numIV names), .imm shapesIV, .imm (.int .i64 ahead), .imm (.int .i64 (n + x.2))] false ∧
        (∀ q, q < nx → q ≠ o → G4 q = G q) ∧ x.1 ≤ kids.length ∧ (1 ≤ x.2 ∧ x.2 ≤ 60 - n) ∧ res = expRs srcs names ahead (kids.drop x.1) depth (60 - n) x.2)
      (fun x => kids.length - x.1) (0, m) .auto ⟨by omega, hGo, hfr, Nat.zero_le _, hm, he⟩ ?_
    clear hGo hGe hfr he hm hc hge hi
    clear i m hx4
    rintro ⟨i, m⟩ nx4 G4 ⟨hx4, hGo, hfr, hi, hm, he⟩
    dsimp only at hGo hi hm he ⊢
    rcases Bool.eq_false_or_eq_true (decide ((i : Int) < ((Exp.ivs kids).length : Int))) with hc | hc
    · have hlt : i < kids.length := by have := of_decide_eq_true hc; omega
      obtain ⟨kid, hxk⟩ := at_lt hlt
      have hxi := ivs_at hxk
      have hcl := kid.cells_len
      have ihk := @ih kid (List.mem_of_getElem? hxk)
      have hle := (expR_le srcs names ahead kid (depth + 1) (60 - n - m)).2
      rw [expRs_drop srcs names ahead hxk] at he
      have hmu : kids.length - (i + 1) < kids.length - i := by omega
      obtain ⟨o', s', m', f', c', k'⟩ := kid
      refine AN ?_
      refine R.callBP rfl rfl rfl rfl rfl ((ihk (n := n + m) (depth := depth + 1) at_upd (by omega) (by omega) (by omega)).mono fun r hr => ?_)
      rw [show (60 : Int) - (n + m) = 60 - n - m by omega] at hr
      cases r with
      | pan u G' nx' =>
        obtain ⟨rfl, g1, g2, g3⟩ := hr
        rw [if_pos g1] at he
        exact bad he (by omega) fun q h4 h5 => (g3 q (by omega) h5).trans (Eq.trans at_upd (hfr q h4 h5))
      | ret v G' nx' =>
        obtain ⟨rfl, g1, g2, g3, g4⟩ := hr
        rw [if_neg (by omega)] at he
        refine AN ?_
        refine W.skipLop (i + 1, m + expR srcs names ahead (.mk o' s' m' f' c' k') (depth + 1) (60 - n - m)) hmu .auto ⟨by omega, ?_, fun q h4 h5 => (g4 q (by omega) h5).trans (Eq.trans at_upd (hfr q h4 h5)), hlt, ?_, he⟩
        · rw [g2, Int.add_assoc]
        · dsimp only
          have := hle g1
          omega
    · have hge : kids.length ≤ i := by have := of_decide_eq_false hc; omega
      rw [List.drop_eq_nil_of_le hge, expRs] at he
      rw [he]
      refine AN ?_
      exact W.skipFinP rfl ⟨rfl, by omega, hGo, by omega, hfr⟩
end Go.Abs
