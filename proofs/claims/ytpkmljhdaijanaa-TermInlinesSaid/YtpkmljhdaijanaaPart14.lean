/- Putting one expression for each use of a name, as the reference does it. -/
import Derived.Test.YtpkmljhdaijanaaPart13
open Go Go.Abs
namespace Go.Abs
set_option maxRecDepth 100000
set_option maxHeartbeats 4000000
/-- In the body of put. -/
noncomputable abbrev CP : Cfg := CC.at 59
instance fnisP59 : FnIs CP 59 := ⟨rfl, fun _ => rfl⟩
instance tyisP {t : TypeId} {k : TyI} [h : TyIs CC t k] : TyIs CP t k := ⟨h.is⟩

theorem Ret.at {C : Cfg} {g f : FuncId} {ivs : List IV} {x : IV} (h : Ret C f ivs x) : Ret (C.at g) f ivs x := by
  unfold Ret at h ⊢
  simp only [low_at]
  exact h
theorem Ret.base {C : Cfg} {g f : FuncId} {ivs : List IV} {x : IV} (h : Ret (C.at g) f ivs x) : Ret C f ivs x := by
  unfold Ret at h ⊢
  simpa only [low_at] using h
theorem Cal.at {C : Cfg} {g f : FuncId} {vs : List AV} {G : Nat → Obj} {nx : Nat} {Ψ : AV → (Nat → Obj) → Nat → Prop} (h : Cal C f vs G nx Ψ) : Cal (C.at g) f vs G nx Ψ := by
  unfold Cal at h ⊢
  simp only [low_at]
  exact h
theorem O.loadRA {C : Cfg} {id : Nat} {l : Env} {G : Nat → Obj} {nx : Nat} {df : List (AV × List AV)} {pk : Pk} {x : Operand} {t et : TypeId} {k : TyI} {o m n sz : Nat} {xs us : List AV} {fr : Bool} {u : AV} [hk : TyIs C t k] (hx : lookO l x = some (.rptr o m n 0)) (hG : G o = .row et sz xs fr) (hm : xs.length = m) (hu : xs[n]? = some u)
    (hc : Go.Abs.sub u.cells 0 k.sz = some us) (hg : k.d.isAgg = true) : OpV C id l G nx df pk (.load t x) (mkAgg us) [] :=
  O.of fun t L hA => by simp [opA, hA.ev hx, aLoad, hk.is, hg, readAt, hG, hm, hu, hc]

/-- What was put so far. -/
def putI (nm : Str) (rep : Exp) (kids : List Exp) (i : Nat) : List Exp := (kids.take i).map (putE nm rep) ++ kids.drop i
theorem putI_len (nm : Str) (rep : Exp) (kids : List Exp) (i : Nat) : (putI nm rep kids i).length = kids.length := by
  unfold putI; simp; omega
theorem putI_zero (nm : Str) (rep : Exp) (kids : List Exp) : putI nm rep kids 0 = kids := by unfold putI; simp
theorem putI_all {nm : Str} {rep : Exp} {kids : List Exp} {i : Nat} (h : kids.length ≤ i) : putI nm rep kids i = kids.map (putE nm rep) := by
  unfold putI; rw [List.take_of_length_le h, List.drop_eq_nil_of_le h, List.append_nil]
theorem putI_at {nm : Str} {rep : Exp} {kids : List Exp} {i : Nat} {x : Exp} (h : kids[i]? = some x) : (putI nm rep kids i)[i]? = some x := by
  obtain ⟨h1, h2⟩ := List.getElem?_eq_some_iff.1 h
  unfold putI
  rw [List.drop_eq_getElem_cons h1, h2]
  exact mid_at (by simp; omega)
theorem putI_set {nm : Str} {rep : Exp} {kids : List Exp} {i : Nat} {x : Exp} (h : kids[i]? = some x) : (putI nm rep kids i).set i (putE nm rep x) = putI nm rep kids (i + 1) := by
  obtain ⟨h1, h2⟩ := List.getElem?_eq_some_iff.1 h
  have hl : ((kids.take i).map (putE nm rep)).length = i := by simp; omega
  unfold putI
  rw [List.drop_eq_getElem_cons h1, h2, mid_set hl, List.take_add_one, h]
  simp

theorem Own.updNe {e e' sz sz' lo hi o : Nat} {xs : List IV} {ys : List AV} {fr : Bool} {G : Nat → Obj} {v : AV} {x : Obj} (h : Own e sz lo hi xs G v) (hG : G o = .row e' sz' ys fr) (hne : e ≠ e') : Own e sz lo hi xs (Go.Abs.upd G o x) v := by
  rcases h with h | ⟨o2, h1, h2, h3, h4⟩
  · exact .inl h
  · refine .inr ⟨o2, h1, h2, h3, ?_⟩
    rw [upd_ne _ _ _ _ ?_]
    · exact h4
    · rintro rfl
      rw [hG] at h4
      cases h4
      exact hne rfl
theorem copied_agg {op n fold : Int} {name : Str} {calcs : List Trm} {kids : List Exp} {lo hi : Nat} {G : Nat → Obj} {r : AV} (h : Copied lo hi G (.mk op name n fold calcs kids) r) : ∃ va vb, r = .agg [.imm (.int .i64 op), .imm (sv name), .imm (.int .i64 n), .imm (.int .i64 fold), va, vb] ∧
    AV.fits 6 (.agg [.imm (.int .i64 op), .imm (sv name), .imm (.int .i64 n), .imm (.int .i64 fold), va, vb]) = true ∧ Own 123 3 lo hi (Trm.ivs calcs) G va ∧ Own 59 6 lo hi (Exp.ivs kids) G vb := by
  obtain ⟨va, vb, rfl, hva, hvb⟩ := h
  refine ⟨va, vb, mkAgg_not ⟨vb, by simp, hvb.notImm⟩, ?_, hva, hvb⟩
  show ((6 == 6) && (true && (true && (true && (true && (va.one && (vb.one && true))))))) = true
  rw [hva.one1, hvb.one1]; rfl

theorem ret59 {e rep : Exp} {nm : Str} (h : e.Sm) (hr : rep.Sm) : Ret CC 59 [e.iv, sv nm, rep.iv] (putE nm rep e).iv := by
  induction h with
  | mk op name n fold calcs kids hc hk hcs hks ih =>
  rw [putE, putL_map]
  refine Ret.base (g := 59) ?_
  have ih := fun c h => (ih c h).at (g := 59)
  by_cases hcase : (op == 2) = true ∧ (name == nm) = true
  · obtain ⟨hA, hB⟩ := hcase
    rw [hA, hB, if_pos (by rfl)]
    obtain ⟨o', s', m', f', c', k'⟩ := rep
    refine Ret.of (C := CP) (fn := Go.Proofs.Try.f59) (by kernel_rfl) rfl rfl ?_
    refine AA ?_
    refine R.callB rfl rfl rfl rfl rfl ((cal62_15 hr _).at.mono fun v G' nx' ⟨h1, h2, h3⟩ => ?_)
    obtain ⟨va, vb, rfl, hft, hva, hvb⟩ := copied_agg h3
    have g2 : G' 2 = .box ty59.zero.cells false := h2 2 (by omega)
    have ha1 := hva.cells1
    have ha2 := hva.one1
    have hb1 := hvb.cells1
    have hb2 := hvb.one1
    refine R.opN1 (O.storeP rfl rfl hft g2 rfl rfl) ?_
    refine AA ?_
    refine W.retFinCA (cs := [.imm (.int .i64 o'), .imm (sv s'), .imm (.int .i64 m'), .imm (.int .i64 f'), va, vb]) rfl at_upd rfl rfl ?_
    rw [mkAgg_not ⟨vb, by simp, hvb.notImm⟩]
    refine Rdx.peek (d := 2) (P := fun i => 15 ≤ i ∧ i < nx') (Rdx.agg (d := 1) (.cons (.imm ..) (.cons (.imm ..) (.cons (.imm ..) (.cons (.imm ..) (.cons (hva.rdx.frame ?_ fun _ h => h) (.cons (hvb.rdx.frame ?_ fun _ h => h) .nil))))))) (by decide)
    · exact fun o h => at_upd
    · exact fun o h => at_upd
  · have hcond : (op == 2 && name == nm) = false := by
      rw [Bool.eq_false_iff, ne_eq, Bool.and_eq_true]; exact hcase
    rw [hcond, if_neg (by decide)]
    have hcase : (op == 2) = false ∨ ((op == 2) = true ∧ (name == nm) = false) := by
      cases h1 : op == 2 <;> cases h2 : name == nm <;> simp_all
    have hsm : (Exp.mk op name n fold calcs kids).Sm := .mk _ _ _ _ _ _ hc hk hcs hks
    obtain ⟨o', s', m', f', c', k'⟩ := rep
    refine Ret.of (C := CP) (fn := Go.Proofs.Try.f59) (by kernel_rfl) rfl rfl ?_
    rcases hcase with hA | ⟨hA, hB⟩
    all_goals
      refine AA ?_
      refine R.callB rfl rfl rfl rfl rfl ((cal62_16 hsm _).at.mono fun v G' nx' ⟨h1, h2, h3⟩ => ?_)
      obtain ⟨va, vb, rfl, hft, hva, hvb⟩ := copied_agg h3
      have g1 : G' 1 = .box [.imm (.int .i64 o'), .imm (sv s'), .imm (.int .i64 m'), .imm (.int .i64 f'), .imm (.lst (Trm.ivs c')), .imm (.lst (Exp.ivs k'))] false := h2 1 (by omega)
      have g2 : G' 2 = .box ty59.zero.cells false := h2 2 (by omega)
      have ha1 := hva.cells1
      have ha2 := hva.one1
      have hb1 := hvb.cells1
      have hb2 := hvb.one1
      refine AA ?_
      refine R.opN1 (O.storeP rfl rfl hft at_upd rfl rfl) ?_
      refine AA ?_
      refine W.loop (X := Nat) (fun i => [(1, .imm (sv nm)), (5, .ptr 1 0), (6, .ptr 2 0), (7, .ptr 14 0), (8, .imm (.int .i64 i))])
        (fun i nx G => nx' ≤ nx ∧ i ≤ kids.length ∧ G 1 = .box [.imm (.int .i64 o'), .imm (sv s'), .imm (.int .i64 m'), .imm (.int .i64 f'), .imm (.lst (Trm.ivs c')), .imm (.lst (Exp.ivs k'))] false ∧ G 2 = .box ty59.zero.cells false ∧
          G 14 = .box [.imm (.int .i64 op), .imm (sv name), .imm (.int .i64 n), .imm (.int .i64 fold), va, vb] false ∧ Own 123 3 16 nx' (Trm.ivs calcs) G va ∧ Own 59 6 16 nx' (Exp.ivs (putI nm (.mk o' s' m' f' c' k') kids i)) G vb)
        (fun i => kids.length - i) 0 .auto ⟨by omega, Nat.zero_le _, Eq.trans at_upd g1, Eq.trans at_upd g2, at_upd, hva.fr, by rw [putI_zero]; exact hvb.fr⟩ ?_
      clear g1 g2 h2 hva hvb
      rintro i nx G2 ⟨hnx, hi, g1, g2, g14, hva, hvb⟩
      have hl : (Exp.ivs (putI nm (.mk o' s' m' f' c' k') kids i)).length = kids.length := by rw [ivs_len, putI_len]
      rcases Bool.eq_false_or_eq_true (decide ((i : Int) < ((Exp.ivs (putI nm (.mk o' s' m' f' c' k') kids i)).length : Int))) with hcc | hcc
      · have hlt : i < kids.length := by have := of_decide_eq_true hcc; omega
        obtain ⟨x, hx⟩ := at_lt hlt
        have hxi := putI_at (nm := nm) (rep := .mk o' s' m' f' c' k') hx
        have hset := putI_set (nm := nm) (rep := .mk o' s' m' f' c' k') hx
        have hr := ih x (List.mem_of_getElem? hx)
        have hmu : kids.length - (i + 1) < kids.length - i := by omega
        rcases hvb with ⟨hnil, _⟩ | ⟨o, ho1, ho2, rfl, hGo⟩
        · rw [hnil] at hl; simp at hl; omega
        generalize hM : putI nm (.mk o' s' m' f' c' k') kids i = M at *
        generalize hM2 : putI nm (.mk o' s' m' f' c' k') kids (i + 1) = M2 at *
        have hlm : ((Exp.ivs M).map AV.imm).length = (Exp.ivs M).length := List.length_map ..
        generalize putE nm (.mk o' s' m' f' c' k') x = y at *
        obtain ⟨ox, sx, nx0, fx, cx, kx⟩ := x
        obtain ⟨oy, sy, ny, fy, cy, ky⟩ := y
        have hxi' : ((Exp.ivs M).map AV.imm)[((i : Nat) : Int).toNat]? = some (.imm (Exp.mk ox sx nx0 fx cx kx).iv) := by rw [Int.toNat_natCast, List.getElem?_map, Exp.ivs_map, List.getElem?_map, hxi]; rfl
        refine AA ?_
        refine R.op0 (O.lenR rfl rfl hGo hlm) rfl ?_
        refine AA ?_
        refine D.op0 (O.loadRA rfl hGo hlm hxi' rfl rfl) rfl rfl ?_
        refine AD ?_
        refine D.opN1 (O.storeRS (by decide) rfl rfl rfl hGo hlm hxi' rfl rfl) rfl ?_
        refine AD ?_
        refine D.skip4 14 1 o (nx' + 14) (by omega) [⟨0, [], [], []⟩, ⟨1, [1], [], []⟩, ⟨2, [], [], []⟩, ⟨3, [], [], []⟩, ⟨4, [1], [], []⟩, ⟨5, [], [], []⟩, ⟨6, [3], [], []⟩, ⟨7, [3], [], []⟩, ⟨8, [], [], []⟩, ⟨9, [2], [], []⟩, ⟨10, [], [], []⟩, ⟨11, [3], [], []⟩, ⟨12, [3], [3], []⟩] rfl rfl rfl (by kernel_rfl) ?_
        refine AA ?_
        refine W.skipLop (i + 1) hmu .auto ⟨by omega, hlt, Eq.trans at_upd g1, Eq.trans at_upd g2, Eq.trans at_upd g14, hva.updNe hGo (by decide), .inr ⟨o, ho1, ho2, ?_, ?_⟩⟩
        · rw [ivs_len, ivs_len, hM2, ← hset, List.length_set]
        · rw [upd_same, hM2, ← hset, Exp.ivs_map, Exp.ivs_map, List.map_set, List.map_set, Int.toNat_natCast]
          rfl
      · have hge : kids.length ≤ i := by have := of_decide_eq_false hcc; omega
        rw [putI_all hge] at hvb hcc
        have hmk : mkAgg [.imm (.int .i64 op), .imm (sv name), .imm (.int .i64 n), .imm (.int .i64 fold), va, vb] = .agg [.imm (.int .i64 op), .imm (sv name), .imm (.int .i64 n), .imm (.int .i64 fold), va, vb] := mkAgg_not ⟨vb, by simp, hvb.notImm⟩
        refine AA ?_
        refine R.opN1 (O.storeP rfl (congrArg some hmk) hft g2 rfl rfl) ?_
        refine AA ?_
        refine W.retFinCA (cs := [.imm (.int .i64 op), .imm (sv name), .imm (.int .i64 n), .imm (.int .i64 fold), va, vb]) rfl at_upd rfl rfl ?_
        rw [mkAgg_not ⟨vb, by simp, hvb.notImm⟩]
        refine Rdx.peek (d := 2) (P := fun i => 16 ≤ i ∧ i < nx') (Rdx.agg (d := 1) (.cons (.imm ..) (.cons (.imm ..) (.cons (.imm ..) (.cons (.imm ..) (.cons (hva.rdx.frame ?_ fun _ h => h) (.cons (hvb.rdx.frame ?_ fun _ h => h) .nil))))))) (by decide)
        · exact fun o h => at_upd
        · exact fun o h => at_upd
end Go.Abs

/- TermParts: nodes and depths. -/
open Go Go.Abs
namespace Go.Abs
set_option maxRecDepth 100000
set_option maxHeartbeats 4000000
instance fnis31 : FnIs CC 31 := ⟨rfl, fun _ => rfl⟩
instance fnis32 : FnIs CC 32 := ⟨rfl, fun _ => rfl⟩
instance fnis33 : FnIs CC 33 := ⟨rfl, fun _ => rfl⟩
instance fnis34 : FnIs CC 34 := ⟨rfl, fun _ => rfl⟩
instance fnis50 : FnIs CC 50 := ⟨rfl, fun _ => rfl⟩
instance fnis66 : FnIs CC 66 := ⟨rfl, fun _ => rfl⟩
instance fnis67 : FnIs CC 67 := ⟨rfl, fun _ => rfl⟩

/-! ### what is formed is short -/
mutual
theorem calcR_sm : ∀ (c : Trm) (other : Bool) (depth left : Int), 0 ≤ calcR c other depth left → c.Sm
  | .mk op n kids, other, depth, left, h => by
    rw [calcR] at h
    split at h
    · omega
    · cases hk : kidsOf op n other with
      | none => rw [hk] at h; simp at h
      | some k =>
        rw [hk] at h
        dsimp only at h
        split at h
        · omega
        · rename_i h1
          have hk2 : k ≤ 2 := by
            unfold kidsOf at hk
            (repeat' split at hk) <;> cases hk <;> omega
          exact .mk op n kids (by omega) (calcRs_sm kids other depth left 1 h)
theorem calcRs_sm : ∀ (l : List Trm) (other : Bool) (depth left n : Int), 0 ≤ calcRs l other depth left n → ∀ c ∈ l, c.Sm
  | [], _, _, _, _, _, c, hc => by cases hc
  | k :: r, other, depth, left, n, h, c, hc => by
    rw [calcRs] at h
    split at h
    · omega
    · rename_i h1
      rcases List.mem_cons.1 hc with he | hc
      · rw [he]; exact calcR_sm k other (depth + 1) (left - n) (by omega)
      · exact calcRs_sm r other depth left _ h c hc
end
theorem shape_le {op : Int} {s : Shp} (h : shapeR op = some s) : s.calcs ≤ 2 ∧ s.kids ≤ 2 := by
  rcases ops15 op with rfl | rfl | rfl | rfl | rfl | rfl | rfl | rfl | rfl | rfl | rfl | rfl | rfl | rfl | rfl | ⟨n1, n2, n3, n4, n5, n6, n7, n8, n9, n10, n11, n12, n13, n14, n15⟩
  iterate 15 (cases h; decide)
  unfold shapeR at h
  simp [n1, n2, n3, n4, n5, n6, n7, n8, n9, n10, n11, n12, n13, n14, n15] at h
mutual
theorem expR_sm (srcs defs : List Str) (ahead : Nat) : ∀ (e : Exp) (depth left : Int), 0 ≤ expR srcs defs ahead e depth left → e.Sm
  | .mk op name n fold calcs kids, depth, left, h => by
    rw [expR] at h
    cases hs : shapeR op with
    | none => rw [hs] at h; simp at h
    | some s =>
      rw [hs] at h
      dsimp only at h
      split at h
      · omega
      · split at h
        · rename_i hh
          split at h
          · omega
          · rename_i hc
            have hle := shape_le hs
            unfold headIs at hh
            simp only [Bool.and_eq_true, beq_iff_eq] at hh
            exact .mk op name n fold calcs kids (by omega) (by omega) (calcRs_sm calcs (other op) 0 left 1 (by omega)) (expRs_sm srcs defs ahead kids depth left _ h)
        · omega
theorem expRs_sm (srcs defs : List Str) (ahead : Nat) : ∀ (l : List Exp) (depth left n : Int), 0 ≤ expRs srcs defs ahead l depth left n → ∀ e ∈ l, e.Sm
  | [], _, _, _, _, e, he => by cases he
  | k :: r, depth, left, n, h, e, he => by
    rw [expRs] at h
    split at h
    · omega
    · rename_i h1
      rcases List.mem_cons.1 he with hk | he
      · rw [hk]; exact expR_sm srcs defs ahead k (depth + 1) (left - n) (by omega)
      · exact expRs_sm srcs defs ahead r depth left _ h e he
end
theorem countL_sm (srcs names : List Str) : ∀ (ds : List Dfn) (i : Nat) (n : Int), 0 ≤ countL srcs names ds i n → ∀ d ∈ ds, d.exp.Sm
  | [], _, _, _, d, hd => by cases hd
  | k :: r, i, n, h, d, hd => by
    rw [countL] at h
    split at h
    · omega
    · rename_i h1
      rcases List.mem_cons.1 hd with hk | hd
      · rw [hk]; exact expR_sm srcs names i k.exp 1 (60 - n) (by omega)
      · exact countL_sm srcs names r (i + 1) _ h d hd
theorem countR_sm {p : Pgm} (h : 0 ≤ countR p) : ∀ d ∈ p.defs, d.exp.Sm := by
  unfold countR at h
  split at h
  · omega
  · split at h
    · exact countL_sm _ _ _ _ _ h
    · omega
theorem progR_count {p : Pgm} (h : progR p = true) : 0 ≤ countR p := by
  unfold progR at h
  split at h
  · cases h
  · omega
mutual
theorem allE_sm : ∀ {e : Exp}, e.Sm → ∀ x ∈ allE e, x.Sm
  | .mk op name n fold calcs kids, h, x, hx => by
    rw [allE] at hx
    rcases List.mem_cons.1 hx with rfl | hx
    · exact h
    · cases h with
      | mk _ _ _ _ _ _ hc hk hcs hks => exact allEs_sm hks x hx
theorem allEs_sm : ∀ {l : List Exp}, (∀ e ∈ l, e.Sm) → ∀ x ∈ allEs l, x.Sm
  | [], _, x, hx => by cases hx
  | k :: r, h, x, hx => by
    rw [allEs] at hx
    rcases List.mem_append.1 hx with hx | hx
    · exact allE_sm (h k (by simp)) x hx
    · exact allEs_sm (fun e he => h e (by simp [he])) x hx
end

/-- Whether a program is formed, and has a definition. -/
noncomputable def hasR (p : Pgm) (d : Int) : Bool := progR p && decide (d ≥ 0) && decide (d < (p.defs.length : Int))
theorem hasR_at {p : Pgm} {d : Int} (h : hasR p d = true) : progR p = true ∧ ∃ (n : Nat) (x : Dfn), d = (n : Int) ∧ p.defs[n]? = some x := by
  unfold hasR at h
  simp only [Bool.and_eq_true, decide_eq_true_eq] at h
  obtain ⟨⟨h1, h2⟩, h3⟩ := h
  obtain ⟨x, hx⟩ := at_lt (l := p.defs) (i := d.toNat) (by omega)
  exact ⟨h1, d.toNat, x, by omega, hx⟩

theorem ret46 (p : Pgm) (hp : p.Fits) (d : Int) : Ret CC 46 [p.iv, .int .i64 d] (.tup [lookedIV p, .bool (hasR p d)]) := by
  have hr := ret54 p hp
  unfold lookedIV at hr ⊢
  unfold hasR
  generalize progR p = b at *
  generalize countR p = n at *
  generalize ((p.defs.length - 1 : Nat) : Int) = m at *
  obtain ⟨srcs, defs⟩ := p
  have hdm : (defs.map Dfn.iv).length = defs.length := List.length_map ..
  simp only
  rw [← hdm]
  have bt : (!false) = true := rfl
  have bf : (!true) = false := rfl
  refine Ret.of (fn := Go.Proofs.Try.f46) (by kernel_rfl) rfl rfl ?_
  cases b with
  | true =>
    rw [if_pos rfl] at hr ⊢
    rcases Bool.eq_false_or_eq_true (decide (d ≥ 0)) with h1 | h1
    · refine AA ?_
      refine W.retFin2 rfl rfl ⟨[], ?_⟩
      rw [h1]; rfl
    · refine AA ?_
      refine W.retFin2 rfl rfl ⟨[], ?_⟩
      rw [h1]; rfl
  | false =>
    rw [if_neg (by decide)] at hr ⊢
    refine AA ?_
    exact W.retFin2 rfl rfl ⟨[], rfl⟩
theorem ret50 (p : Pgm) (hp : p.Fits) (d : Int) : Ret CC 50 [p.iv, .int .i64 d] (.bool (hasR p d)) := by
  have hr := ret36 p hp
  unfold hasR
  generalize progR p = b at *
  obtain ⟨srcs, defs⟩ := p
  have hdm : (defs.map Dfn.iv).length = defs.length := List.length_map ..
  simp only
  rw [← hdm]
  refine Ret.of (fn := Go.Proofs.Try.f50) (by kernel_rfl) rfl rfl ?_
  rcases Bool.eq_false_or_eq_true (decide (d ≥ 0)) with h1 | h1
  · rcases Bool.eq_false_or_eq_true (decide (d < ((defs.map Dfn.iv).length : Int))) with h2 | h2
    · refine AA ?_
      refine W.retFin1 rfl ⟨[], ?_⟩
      rw [h1, h2]; cases b <;> rfl
    · refine AA ?_
      refine W.retFin1 rfl ⟨[], ?_⟩
      rw [h1, h2]; cases b <;> rfl
  · refine AA ?_
    refine W.retFin1 rfl ⟨[], ?_⟩
    rw [h1]; cases b <;> rfl
end Go.Abs

/- Programs that are the same; what is put, is short. -/
open Go Go.Abs
namespace Go.Abs
set_option maxRecDepth 100000
set_option maxHeartbeats 4000000
instance fnis60 : FnIs CC 60 := ⟨rfl, fun _ => rfl⟩
instance fnis23 : FnIs CC 23 := ⟨rfl, fun _ => rfl⟩

theorem ret60 {l : List Str} (hl : l.length ≤ 9223372036854775807) : Ret CC 60 [.lst (l.map sv), .lst (l.map sv)] (.bool true) := by
  have hlm : (l.map sv).length = l.length := List.length_map ..
  have b3 : (((l.map sv).length : Int) != ((l.map sv).length : Int)) = false := by simp
  refine Ret.of (fn := Go.Proofs.Try.f60) (by kernel_rfl) rfl rfl ?_
  refine AA ?_
  refine W.loop (X := Nat) (fun i => [(0, .imm (.lst (l.map sv))), (1, .imm (.lst (l.map sv))), (5, .imm (.int .i64 i))])
    (fun i nx G => i ≤ l.length) (fun i => l.length - i) 0 .auto (Nat.zero_le _) ?_
  rintro i nx G hi
  rcases Bool.eq_false_or_eq_true (decide ((i : Int) < ((l.map sv).length : Int))) with hc | hc
  · have hlt : i < l.length := by have := of_decide_eq_true hc; omega
    obtain ⟨d, hx⟩ := at_lt hlt
    have hxi := at_map sv hx
    have hmu : l.length - (i + 1) < l.length - i := by omega
    have b0 : (!(d == d)) = false := by simp
    refine AA ?_
    exact W.skipLop (i + 1) hmu .auto hlt
  · refine AA ?_
    exact W.retFin1 rfl ⟨[], rfl⟩

theorem ret23 {p : Pgm} (hs : p.srcs.length ≤ 9223372036854775807) (hd : p.defs.length ≤ 9223372036854775807) (h : ∀ d ∈ p.defs, d.exp.Sm) : Ret CC 23 [p.iv, p.iv] (.bool true) := by
  have h60 := ret60 hs
  obtain ⟨srcs, defs⟩ := p
  simp only at h60 hd h
  have hdm : (defs.map Dfn.iv).length = defs.length := List.length_map ..
  have b3 : (((defs.map Dfn.iv).length : Int) != ((defs.map Dfn.iv).length : Int)) = false := by simp
  have b4 : (!true) = false := rfl
  refine Ret.of (fn := Go.Proofs.Try.f23) (by kernel_rfl) rfl rfl ?_
  refine AA ?_
  refine W.loop (X := Nat) (fun i => [(2, .ptr 0 0), (3, .ptr 1 0), (5, .imm (.int .i64 i))])
    (fun i nx G => i ≤ defs.length ∧ G 0 = .box [.imm (.lst (srcs.map sv)), .imm (.lst (defs.map Dfn.iv))] false ∧ G 1 = .box [.imm (.lst (srcs.map sv)), .imm (.lst (defs.map Dfn.iv))] false) (fun i => defs.length - i) 0 .auto ⟨Nat.zero_le _, rfl, rfl⟩ ?_
  rintro i nx G ⟨hi, h0, h1⟩
  rcases Bool.eq_false_or_eq_true (decide ((i : Int) < ((defs.map Dfn.iv).length : Int))) with hc | hc
  · have hlt : i < defs.length := by have := of_decide_eq_true hc; omega
    obtain ⟨d, hx⟩ := at_lt hlt
    have hxi := at_map Dfn.iv hx
    have hdc := d.cells_len
    have hmu : defs.length - (i + 1) < defs.length - i := by omega
    have hr := ret61 (h d (List.mem_of_getElem? hx))
    obtain ⟨nm, ⟨o', s', n', f', c', k'⟩⟩ := d
    have b0 : (!(nm == nm)) = false := by simp
    refine AA ?_
    exact W.skipLop (i + 1) hmu .auto ⟨hlt, h0, h1⟩
  · refine AA ?_
    exact W.retFin1 rfl ⟨[], rfl⟩

theorem putE_fits {nm : Str} {rep e : Exp} (h : e.Fits) (hr : rep.Fits) : (putE nm rep e).Fits := by
  induction h with
  | mk op name n fold calcs kids hn hw hc hk hcs hks ih =>
  rw [putE, putL_map]
  split
  · exact hr
  · refine .mk _ _ _ _ _ _ hn hw hc (by simpa using hk) hcs fun k hk => ?_
    obtain ⟨k0, h1, rfl⟩ := List.mem_map.1 hk
    exact ih k0 h1
theorem putE_sm {nm : Str} {rep e : Exp} (h : e.Sm) (hr : rep.Sm) : (putE nm rep e).Sm := by
  induction h with
  | mk op name n fold calcs kids hc hk hcs hks ih =>
  rw [putE, putL_map]
  split
  · exact hr
  · refine .mk _ _ _ _ _ _ hc (by simpa using hk) hcs fun k hk => ?_
    obtain ⟨k0, h1, rfl⟩ := List.mem_map.1 hk
    exact ih k0 h1

/-- Without a definition, and with its expression in its place. -/
def putD (nm : Str) (rep : Exp) (x : Dfn) : Dfn := ⟨x.name, putE nm rep x.exp⟩
def outs (defs : List Dfn) (d : Nat) (nm : Str) (rep : Exp) (i : Nat) : List Dfn := ((defs.eraseIdx d).take (if d < i then i - 1 else i)).map (putD nm rep)
/-- A definition that an expression asks for, as of before. -/
def asksE (nm : Str) (y : Exp) : Bool := y.op == 3 && y.name == nm
def asksD (nm : Str) (x : Dfn) : Bool := (allE x.exp).any (asksE nm)
def inlP (p : Pgm) (d : Nat) (x : Dfn) : Pgm := ⟨p.srcs, (p.defs.eraseIdx d).map (putD x.name x.exp)⟩
noncomputable def inlR (p : Pgm) (d : Int) : Pgm × Int :=
  if hasR p d then match p.defs[d.toNat]? with
    | some x => if p.defs.any (asksD x.name) then (⟨[], []⟩, 7) else if progR (inlP p d.toNat x) then (inlP p d.toNat x, 0) else (⟨[], []⟩, 3)
    | none => (⟨[], []⟩, 2)
  else (⟨[], []⟩, 2)
theorem outs_at {defs : List Dfn} {d i : Nat} {nm : Str} {rep : Exp} {y : Dfn} (hi : defs[i]? = some y) (hne : i ≠ d) : outs defs d nm rep (i + 1) = outs defs d nm rep i ++ [putD nm rep y] := by
  unfold outs
  by_cases h : d < i
  · rw [if_pos h, if_pos (by omega), show i + 1 - 1 = (i - 1) + 1 by omega, List.take_add_one]
    rw [List.getElem?_eraseIdx, if_neg (by omega), show i - 1 + 1 = i by omega, hi]
    simp
  · rw [if_neg h, if_neg (by omega), List.take_add_one]
    rw [List.getElem?_eraseIdx, if_pos (by omega), hi]
    simp
theorem outs_same {defs : List Dfn} {d : Nat} {nm : Str} {rep : Exp} : outs defs d nm rep (d + 1) = outs defs d nm rep d := by
  unfold outs
  rw [if_pos (by omega), if_neg (by omega)]
  simp
theorem outs_all {defs : List Dfn} {d i : Nat} {nm : Str} {rep : Exp} (hi : defs.length ≤ i) (hd : d < defs.length) : outs defs d nm rep i = (defs.eraseIdx d).map (putD nm rep) := by
  unfold outs
  rw [if_pos (by omega), List.take_of_length_le (by rw [List.length_eraseIdx, if_pos hd]; omega)]
theorem outs_zero {defs : List Dfn} {d : Nat} {nm : Str} {rep : Exp} : outs defs d nm rep 0 = [] := by
  unfold outs
  rw [if_neg (by omega)]; rfl
theorem outs_len {defs : List Dfn} {d i : Nat} {nm : Str} {rep : Exp} : (outs defs d nm rep i).length ≤ defs.length := by
  unfold outs
  rw [List.length_map, List.length_take]
  have := List.length_eraseIdx_le defs d
  omega
theorem inlP_fits {p : Pgm} (hp : p.Fits) {d : Nat} {x : Dfn} (hx : x ∈ p.defs) : (inlP p d x).Fits where
  srcs := hp.srcs
  src := hp.src
  defs := by
    have := List.length_eraseIdx_le p.defs d
    have := hp.defs
    unfold inlP; simp only [List.length_map]; omega
  name := fun y hy => by
    unfold inlP at hy
    obtain ⟨z, h1, rfl⟩ := List.mem_map.1 hy
    exact hp.name z (List.mem_of_mem_eraseIdx h1)
  exp := fun y hy => by
    unfold inlP at hy
    obtain ⟨z, h1, rfl⟩ := List.mem_map.1 hy
    exact putE_fits (hp.exp z (List.mem_of_mem_eraseIdx h1)) (hp.exp x hx)
end Go.Abs

/- Programs without a definition, as the reference makes them. -/
open Go Go.Abs
namespace Go.Abs
set_option maxRecDepth 100000
set_option maxHeartbeats 4000000
instance fnis22 : FnIs CC 22 := ⟨rfl, fun _ => rfl⟩

theorem ret22 (p : Pgm) (hp : p.Fits) (d : Int) : Ret CC 22 [p.iv, .int .i64 d] (.tup [(inlR p d).1.iv, .int .i64 (inlR p d).2]) := by
  have hr50 := ret50 p hp d
  unfold inlR
  have hat := hasR_at (p := p) (d := d)
  cases hb : hasR p d with
  | false =>
    rw [hb] at hr50
    have bt : (!false) = true := rfl
    simp only [Bool.false_eq_true, if_false]
    obtain ⟨srcs, defs⟩ := p
    refine Ret.of (fn := Go.Proofs.Try.f22) (by kernel_rfl) rfl rfl ?_
    refine AA ?_
    exact W.retFinCT rfl rfl rfl rfl rfl ⟨[], rfl⟩
  | true =>
    rw [hb] at hr50 hat
    obtain ⟨hpr, d, x, rfl, hx⟩ := hat rfl
    have hg := countR_good (progR_count hpr)
    have hsm := countR_sm (progR_count hpr)
    have hsz := hg.size
    have hd6 := hg.defs
    have hs4 := hg.srcs
    have hfit := hp.exp
    have hxm := List.mem_of_getElem? hx
    have hxd : d < p.defs.length := (List.getElem?_eq_some_iff.1 hx).1
    have hpR := ret36 (inlP p d x) (inlP_fits hp hxm)
    simp only [if_true, Int.toNat_natCast, hx]
    have bf : (!true) = false := rfl
    generalize progR (inlP p d x) = pr at *
    unfold inlP at hpR ⊢
    obtain ⟨srcs, defs⟩ := p
    simp only at *
    have hdm : (defs.map Dfn.iv).length = defs.length := List.length_map ..
    have hxi := at_map Dfn.iv hx
    have hxsm := hsm x hxm
    obtain ⟨nd, ed⟩ := x
    simp only at *
    refine Ret.of (fn := Go.Proofs.Try.f22) (by kernel_rfl) rfl rfl ?_
    refine AA ?_
    refine R.op1 (O.appNil rfl rfl rfl rfl (ys := (srcs.map sv).map AV.imm) rfl (by decide) (by decide) rfl (fits_all (fun y hy => by obtain ⟨z, _, rfl⟩ := List.mem_map.1 hy; rfl)) (by simp only [List.length_map, most]; omega)) rfl ?_
    refine AA ?_
    have hsl : ((srcs.map sv).map AV.imm).length = (srcs.map sv).length := List.length_map ..
    rw [hsl]
    refine W.loop (X := Nat × AV) (fun x => [(1, .imm (natIV d)), (2, .ptr 0 0), (4, .ptr 1 0), (5, .imm (.int .i64 0)), (6, .ptr 11 0), (7, .imm (.int .i64 x.1))])
      (fun x nx G => 13 ≤ nx ∧ G 0 = .box [.imm (.lst (srcs.map sv)), .imm (.lst (defs.map Dfn.iv))] false ∧ G 1 = .box ty29.zero.cells false ∧ G 9 = .row 9 1 ((srcs.map sv).map AV.imm) false ∧ G 11 = .box [.row 9 (srcs.map sv).length, x.2] false ∧ x.1 ≤ defs.length ∧ (defs.take x.1).any (asksD nd) = false ∧ Own 70 7 13 nx ((outs defs d nd ed x.1).map Dfn.iv) G x.2)
      (fun x => defs.length - x.1) (0, .nils) .auto ⟨by omega, rfl, rfl, rfl, rfl, Nat.zero_le _, rfl, by rw [outs_zero]; exact .nil ..⟩ ?_
    rintro ⟨i, w⟩ nx G ⟨hnx, h0, h1, h9, h11, hi, hno, ho⟩
    dsimp only at h11 hi hno ho ⊢
    obtain ⟨nx, rfl⟩ : ∃ m, nx = m + 13 := ⟨nx - 13, by omega⟩
    have hw1 := ho.cells1
    have hw2 := ho.one1
    have hmk : mkAgg [.row 9 (srcs.map sv).length, w] = .agg [.row 9 (srcs.map sv).length, w] := mkAgg_not ⟨.row 9 (srcs.map sv).length, by simp, by intro x h; cases h⟩
    rcases Bool.eq_false_or_eq_true (decide ((i : Int) < ((defs.map Dfn.iv).length : Int))) with hcc | hcc
    · have hlt : i < defs.length := by have := of_decide_eq_true hcc; omega
      obtain ⟨y, hy⟩ := at_lt hlt
      have hyi := at_map Dfn.iv hy
      have hdc := y.cells_len
      have hym := List.mem_of_getElem? hy
      have hmu : defs.length - (i + 1) < defs.length - i := by omega
      have hsz' := hsz y hym
      have hr58 := ret58 (hfit y hym) (by omega)
      have hr59 := ret59 (nm := nd) (hsm y hym) hxsm
      have hany : ∀ b, asksD nd y = b → (defs.take (i + 1)).any (asksD nd) = b := fun b hb => by
        rw [List.take_add_one, hy, List.any_append, hno]; simp [hb]
      have hall : asksD nd y = true → defs.any (asksD nd) = true := fun h => any_at hy h
      have hnext := fun h => outs_at (d := d) (nm := nd) (rep := ed) hy h
      have hlen := outs_len (defs := defs) (d := d) (nm := nd) (rep := ed) (i := i)
      obtain ⟨ny, ey⟩ := y
      simp only [asksD] at hr58 hr59 hsz' hany hall hnext
      generalize hnodes : allE ey = nodes at *
      generalize hput : putE nd ed ey = py at *
      have hnm : (Exp.ivs nodes).length = nodes.length := ivs_len nodes
      obtain ⟨oy, sy, n1, fy, cy, ky⟩ := ey
      obtain ⟨ox, sx, n2, fx, cx, kx⟩ := ed
      refine AA ?_
      refine W.loop (X := Nat) (fun j => [(1, .imm (natIV d)), (2, .ptr 0 0), (4, .ptr 1 0), (5, .imm (.int .i64 0)), (6, .ptr 11 0), (7, .imm (.int .i64 i)), (8, .imm (.lst (Exp.ivs nodes))), (9, .imm (.int .i64 j))])
        (fun j nx2 G2 => nx + 13 ≤ nx2 ∧ G2 0 = .box [.imm (.lst (srcs.map sv)), .imm (.lst (defs.map Dfn.iv))] false ∧ G2 1 = .box ty29.zero.cells false ∧ G2 9 = .row 9 1 ((srcs.map sv).map AV.imm) false ∧ G2 11 = .box [.row 9 (srcs.map sv).length, w] false ∧ j ≤ nodes.length ∧ (nodes.take j).any (asksE nd) = false ∧ Own 70 7 13 (nx + 13) ((outs defs d nd (.mk ox sx n2 fx cx kx) i).map Dfn.iv) G2 w)
        (fun j => nodes.length - j) 0 .auto ⟨by omega, h0, h1, h9, h11, Nat.zero_le _, rfl, ho⟩ ?_
      clear h0 h1 h9 h11 ho G
      rintro j nx2 G ⟨hnx2, h0, h1, h9, h11, hj, hnoj, ho⟩
      obtain ⟨nx2, rfl⟩ : ∃ m, nx2 = m + 13 := ⟨nx2 - 13, by omega⟩
      rcases Bool.eq_false_or_eq_true (decide ((j : Int) < ((Exp.ivs nodes).length : Int))) with hcj | hcj
      · have hltj : j < nodes.length := by have := of_decide_eq_true hcj; omega
        obtain ⟨z, hz⟩ := at_lt hltj
        have hzi := ivs_at hz
        have hmu2 : nodes.length - (j + 1) < nodes.length - j := by omega
        have hst : asksE nd z = false → (nodes.take (j + 1)).any (asksE nd) = false := fun h => by
          rw [List.take_add_one, hz, List.any_append, hnoj]; simp [h]
        have hhit : asksE nd z = true → nodes.any (asksE nd) = true := fun h => any_at hz h
        obtain ⟨oz, sz, nz, fz, cz, kz⟩ := z
        simp only [asksE, Exp.op, Exp.name] at hst hhit
        rcases Bool.eq_false_or_eq_true (oz == 3) with hA | hA
        · rcases Bool.eq_false_or_eq_true (sz == nd) with hB | hB
          · rw [hall (hhit (by rw [hA, hB]; rfl)), if_pos rfl]
            refine AA ?_
            exact W.retFinCT rfl at_upd rfl rfl rfl ⟨[], rfl⟩
          · refine AA ?_
            exact W.skipLop (j + 1) hmu2 .auto ⟨by omega, h0, h1, h9, h11, hltj, hst (by rw [hA, hB]; rfl), ho⟩
        · refine AA ?_
          exact W.skipLop (j + 1) hmu2 .auto ⟨by omega, h0, h1, h9, h11, hltj, hst (by rw [hA]; rfl), ho⟩
      have hgej : nodes.length ≤ j := by have := of_decide_eq_false hcj; omega
      rw [List.take_of_length_le hgej] at hnoj
      have hno' := hany false hnoj
      rcases Bool.eq_false_or_eq_true ((i : Int) != (d : Int)) with hne | hne
      · have hne' : i ≠ d := fun h => by rw [h] at hne; simp at hne
        have hnext := hnext hne'
        have hput2 : putD nd (.mk ox sx n2 fx cx kx) ⟨ny, .mk oy sy n1 fy cy ky⟩ = ⟨ny, py⟩ := by unfold putD; rw [hput]
        rw [hput2] at hnext
        obtain ⟨op, sp, np, fp, cp, kp⟩ := py
        refine AA ?_
        refine D.app1 ho at_upd (by simp only [List.length_map, most]; omega) fun v' G' rd o' ho' hG' hlo => ?_
        have hoo : Own 70 7 13 (nx2 + 13 + 4 + 3 + 32) ((outs defs d nd (.mk ox sx n2 fx cx kx) (i + 1)).map Dfn.iv) G' v' := by rw [hnext, List.map_append]; exact ho'
        have hv1 := ho'.cells1
        have hv2 := ho'.one1
        have g0 := (hG' 0 (by omega)).trans (Eq.trans at_upd h0)
        have g1 := (hG' 1 (by omega)).trans (Eq.trans at_upd h1)
        have g9 := (hG' 9 (by omega)).trans (Eq.trans at_upd h9)
        have g11 := (hG' 11 (by omega)).trans (Eq.trans at_upd h11)
        refine AD ?_
        refine D.skip (by kernel_rfl) ?_
        refine AA ?_
        exact W.skipLop (i + 1, v') hmu .auto ⟨by omega, at_upd, at_upd, at_upd, at_upd, hlt, hno', hoo.fr⟩
      · have hne' : i = d := by
          have : ((i : Int) == (d : Int)) = true := by simpa [bne] using hne
          have := beq_iff_eq.1 this; omega
        refine AA ?_
        refine W.skipLop (i + 1, w) hmu .auto ⟨by omega, h0, h1, h9, h11, hlt, hno', ?_⟩
        show Own 70 7 13 _ ((outs defs d nd (.mk ox sx n2 fx cx kx) (i + 1)).map Dfn.iv) _ w
        subst hne'
        rw [outs_same]
        exact ho.up (by omega)
    · have hge : defs.length ≤ i := by have := of_decide_eq_false hcc; omega
      rw [List.take_of_length_le hge] at hno
      rw [outs_all hge hxd] at ho
      rw [hno, if_neg (by decide)]
      have hrw : Rdx 2 G (fun o => 2 ≤ o) (.agg [.row 9 (srcs.map sv).length, w]) (Pgm.mk srcs ((defs.eraseIdx d).map (putD nd ed))).iv :=
        Rdx.agg (d := 1) (.cons (Rdx.row (d := 0) (e := 9) (sz := 1) (fr := false) h9 (List.length_map ..) (All2.imms 0 _ _ _) (by omega)) (.cons (ho.rdx.frame (fun _ _ => rfl) fun _ h => by omega) .nil))
      obtain ⟨ids, hids⟩ := hrw.peek (by decide)
      refine AA ?_
      refine R.op0 (O.callG (ids := ids) rfl (peeks_cons (vs := []) ((congrArg (Go.Abs.peek G pkDepth) hmk).trans hids)) hpR rfl) rfl ?_
      cases pr with
      | true =>
        have hft : AV.fits 2 (.agg [.row 9 (srcs.map sv).length, w]) = true := by
          show ((2 == 2) && (true && (w.one && true))) = true
          rw [hw2]; rfl
        refine AA ?_
        refine R.opN1 (O.storeP rfl (congrArg some hmk) hft h1 rfl rfl) ?_
        refine AA ?_
        refine W.retFinCT (cs := [.row 9 (srcs.map sv).length, w]) rfl at_upd rfl rfl rfl ?_
        rw [hmk]
        exact Rdx.peek (d := 3) (P := fun o => 2 ≤ o) (Rdx.tup (d := 2) (.cons (hrw.frame (fun o h => at_upd) fun _ h => h) (.cons (.imm ..) .nil))) (by decide)
      | false =>
        refine AA ?_
        exact W.retFinCT rfl at_upd rfl rfl rfl ⟨[], rfl⟩
end Go.Abs

/- Programs without a definition, as the program makes them. -/
open Go Go.Abs
namespace Go.Abs
set_option maxRecDepth 100000
set_option maxHeartbeats 4000000
instance fnis21 : FnIs CC 21 := ⟨rfl, fun _ => rfl⟩

theorem W.retFinCC {C : Cfg} {fid nt nx : Nat} {l : Env} {G : Nat → Obj} {a b : Nat} {t u : TypeId} {o o2 : Nat} {k k2 : TyI} {cs : List AV} {fr fr2 : Bool} {w : AV} {Ψ : AV → (Nat → Obj) → Nat → Prop} [hk : TyIs C t k] [hk2 : TyIs C u k2] (ha : look l a = some (.ptr o 0)) (hG : G o = .box cs fr) (hs : Nat.beq cs.length k.sz = true) (hg : k.d.isAgg = true)
    (hb : look l b = some (.ptr o2 0)) (hG2 : G o2 = .box [w] fr2) (hs2 : k2.sz = 1) (hg2 : k2.d.isAgg = false) (h : Ψ (mkTup [mkAgg cs, w]) G nx) :
    W C fid nt .ret l G nx [] .no (fin C [.cell a t, .cell b u] Ψ) :=
  .ret fun t' ht => ⟨rfl, rfl, mkTup [mkAgg cs, w], by
    have e : cs.length = k.sz := Nat.eq_of_beq_eq_true hs
    have e2 : Go.Abs.sub cs 0 k.sz = some cs := by rw [← e]; exact sub_all cs
    have e3 : Go.Abs.sub [w] 0 1 = some [w] := rfl
    simp only [resultsA, resultsL, resultA, ht _ _ ha, ht _ _ hb, aLoad, hk.is, hk2.is, readAt, hG, hG2, e2, hs2, e3, hg, hg2, if_true, Option.map_some, Bool.false_eq_true, if_false], h⟩

theorem peek_rows {G : Nat → Obj} {q1 n1 e1 s1 e2 s2 lo hi : Nat} {xs1 xs2 : List IV} {fr1 : Bool} {v : AV} (h1 : G q1 = .row e1 s1 (xs1.map .imm) fr1) (hn1 : xs1.length = n1) (ho : Own e2 s2 lo hi xs2 G v) :
    ∃ ids, Go.Abs.peek G pkDepth (.agg [.row q1 n1, v]) = some (.agg [.lst xs1, .lst xs2], ids) ∧ ∀ i ∈ ids, i = q1 ∨ lo ≤ i := by
  have hp : ∀ x, Go.Abs.peek G 98 (.imm x) = some (x, []) := fun x => rfl
  have hrow : ∀ {q n e s : Nat} {xs : List IV} {fr : Bool}, G q = .row e s (xs.map .imm) fr → xs.length = n → Go.Abs.peek G 99 (.row q n) = some (.lst xs, [q]) := by
    intro q n e s xs fr h hn
    show Go.Abs.peek G (98 + 1) _ = _
    unfold Go.Abs.peek
    rw [h]
    dsimp only
    rw [if_pos (by simpa using hn), peekL_imm hp]
  rcases ho with ⟨rfl, rfl⟩ | ⟨o, g1, g2, rfl, g4⟩
  · refine ⟨[q1], ?_, fun i hi => .inl (by simpa using hi)⟩
    have hn : Go.Abs.peek G 99 .nils = some (.lst [], []) := rfl
    show Go.Abs.peek G (99 + 1) _ = _
    unfold Go.Abs.peek
    rw [peekL, hrow h1 hn1, peekL, hn, peekL]
    rfl
  · refine ⟨[q1, o], ?_, fun i hi => ?_⟩
    · show Go.Abs.peek G (99 + 1) _ = _
      unfold Go.Abs.peek
      rw [peekL, hrow h1 hn1, peekL, hrow g4 rfl, peekL]
      rfl
    · simp only [List.mem_cons, List.not_mem_nil, or_false] at hi
      rcases hi with rfl | rfl
      · exact .inl rfl
      · exact .inr g1
theorem Own.rdxF {e sz lo hi : Nat} {xs : List IV} {G G' : Nat → Obj} {v : AV} (h : Own e sz lo hi xs G v) (hG : ∀ o, lo ≤ o → o < hi → G' o = G o ∨ G' o = (G o).freeze) : Rdx 1 G' (fun o => lo ≤ o) v (.lst xs) := by
  rcases h with ⟨rfl, rfl⟩ | ⟨o, g1, g2, rfl, g4⟩
  · exact .nils ..
  · rcases hG o g1 g2 with h | h
    · exact Rdx.row (d := 0) (e := e) (sz := sz) (fr := false) (h.trans g4) (List.length_map ..) (All2.imms 0 _ _ _) g1
    · exact Rdx.row (d := 0) (e := e) (sz := sz) (fr := true) (by rw [h, g4]; rfl) (List.length_map ..) (All2.imms 0 _ _ _) g1

theorem ret21 (p : Pgm) (hp : p.Fits) (d : Int) : Ret CC 21 [p.iv, .int .i64 d] (.tup [(inlR p d).1.iv, .int .i64 (inlR p d).2]) := by
  have hr46 := ret46 p hp d
  unfold inlR
  have hat := hasR_at (p := p) (d := d)
  cases hb : hasR p d with
  | false =>
    rw [hb] at hr46
    have bt : (!false) = true := rfl
    simp only [Bool.false_eq_true, if_false]
    generalize lookedIV p = lk at *
    obtain ⟨srcs, defs⟩ := p
    refine Ret.of (fn := Go.Proofs.Try.f21) (by kernel_rfl) rfl rfl ?_
    refine AA ?_
    exact W.retFinCC rfl rfl rfl rfl rfl rfl rfl rfl ⟨[], rfl⟩
  | true =>
    rw [hb] at hr46 hat
    obtain ⟨hpr, d, x, rfl, hx⟩ := hat rfl
    have hg := countR_good (progR_count hpr)
    have hsm := countR_sm (progR_count hpr)
    have hsz := hg.size
    have hd6 := hg.defs
    have hs4 := hg.srcs
    have hfit := hp.exp
    have hxm := List.mem_of_getElem? hx
    have hxd : d < p.defs.length := (List.getElem?_eq_some_iff.1 hx).1
    have hpR := ret54 (inlP p d x) (inlP_fits hp hxm)
    unfold lookedIV at hpR
    generalize lookedIV p = lk at *
    simp only [if_true, Int.toNat_natCast, hx]
    have bf : (!true) = false := rfl
    generalize ((inlP p d x).defs.length - 1 : Nat) = m1 at *
    generalize countR (inlP p d x) = m2 at *
    generalize progR (inlP p d x) = pr at *
    unfold inlP at hpR ⊢
    obtain ⟨srcs, defs⟩ := p
    simp only at *
    have hdm : (defs.map Dfn.iv).length = defs.length := List.length_map ..
    have hxi := at_map Dfn.iv hx
    have hxsm := hsm x hxm
    obtain ⟨nd, ⟨ox, sx, n2, fx, cx, kx⟩⟩ := x
    simp only at *
    have horc : CC.orc 56 [.lst (srcs.map sv)] = some (.own 9 1 (srcs.map sv)) := by
      show (if (srcs.map sv).all isStrIV = true ∧ (srcs.map sv).length ≤ 4294967296 then some (OrcR.own 9 1 (srcs.map sv)) else none) = _
      rw [if_pos ⟨by rw [List.all_map]; exact List.all_eq_true.2 fun _ _ => rfl, by simp; omega⟩]
    refine Ret.of (fn := Go.Proofs.Try.f21) (by kernel_rfl) rfl rfl ?_
    refine AA ?_
    refine R.op1 (O.callOwnI rfl horc rfl rfl) rfl ?_
    refine AA ?_
    refine W.loop (X := Nat × AV) (fun x => [(1, .imm (natIV d)), (2, .ptr 0 0), (4, .ptr 1 0), (5, .ptr 2 0), (8, .ptr 18 0), (9, .ptr 24 0), (32, .imm (.lst (defs.map Dfn.iv))), (33, .imm (.int .i64 (defs.map Dfn.iv).length)), (34, .imm (.int .i64 x.1))])
      (fun x nx G => 30 ≤ nx ∧ G 0 = .box [.imm (.lst (srcs.map sv)), .imm (.lst (defs.map Dfn.iv))] false ∧ G 1 = .box ty29.zero.cells false ∧ G 2 = .box ty31.zero.cells false ∧ G 18 = .box [.imm (sv nd), .imm (.int .i64 ox), .imm (sv sx), .imm (.int .i64 n2), .imm (.int .i64 fx), .imm (.lst (Trm.ivs cx)), .imm (.lst (Exp.ivs kx))] false ∧ G 22 = .row 9 1 ((srcs.map sv).map AV.imm) false ∧ G 24 = .box [.row 22 (srcs.map sv).length, x.2] false ∧ x.1 ≤ defs.length ∧ (defs.take x.1).any (asksD nd) = false ∧ Own 70 7 30 nx ((outs defs d nd (.mk ox sx n2 fx cx kx) x.1).map Dfn.iv) G x.2)
      (fun x => defs.length - x.1) (0, .nils) .auto ⟨by omega, rfl, rfl, rfl, rfl, rfl, rfl, Nat.zero_le _, rfl, by rw [outs_zero]; exact .nil ..⟩ ?_
    rintro ⟨i, w⟩ nx G ⟨hnx, h0, h1, h2, h18, h22, h24, hi, hno, ho⟩
    dsimp only at h24 hi hno ho ⊢
    obtain ⟨nx, rfl⟩ : ∃ m, nx = m + 30 := ⟨nx - 30, by omega⟩
    have hw1 := ho.cells1
    have hw2 := ho.one1
    have hmk : mkAgg [.row 22 (srcs.map sv).length, w] = .agg [.row 22 (srcs.map sv).length, w] := mkAgg_not ⟨.row 22 (srcs.map sv).length, by simp, by intro x h; cases h⟩
    rcases Bool.eq_false_or_eq_true (decide ((i : Int) < ((defs.map Dfn.iv).length : Int))) with hcc | hcc
    · have hlt : i < defs.length := by have := of_decide_eq_true hcc; omega
      obtain ⟨y, hy⟩ := at_lt hlt
      have hyi := at_map Dfn.iv hy
      have hdc := y.cells_len
      have hym := List.mem_of_getElem? hy
      have hmu : defs.length - (i + 1) < defs.length - i := by omega
      have hyf := hfit y hym
      have hr49 := ret49 y.exp
      have hr57 := ret57 (nm := nd) (hsm y hym) hxsm
      have hany : ∀ b, asksD nd y = b → (defs.take (i + 1)).any (asksD nd) = b := fun b hb => by
        rw [List.take_add_one, hy, List.any_append, hno]; simp [hb]
      have hall : asksD nd y = true → defs.any (asksD nd) = true := fun h => any_at hy h
      have hnext := fun h => outs_at (d := d) (nm := nd) (rep := .mk ox sx n2 fx cx kx) hy h
      have hlen := outs_len (defs := defs) (d := d) (nm := nd) (rep := .mk ox sx n2 fx cx kx) (i := i)
      obtain ⟨ny, ⟨oy, sy, n1, fy, cy, ky⟩⟩ := y
      simp only [asksD] at hr57 hyf hany hall hnext
      refine AA ?_
      refine W.gen' (fun G2 => G2 0 = .box [.imm (.lst (srcs.map sv)), .imm (.lst (defs.map Dfn.iv))] false ∧ G2 1 = .box ty29.zero.cells false ∧ G2 2 = .box ty31.zero.cells false ∧ G2 18 = .box [.imm (sv nd), .imm (.int .i64 ox), .imm (sv sx), .imm (.int .i64 n2), .imm (.int .i64 fx), .imm (.lst (Trm.ivs cx)), .imm (.lst (Exp.ivs kx))] false ∧ G2 22 = .row 9 1 ((srcs.map sv).map AV.imm) false ∧ G2 24 = .box [.row 22 (srcs.map sv).length, w] false ∧ Own 70 7 30 (nx + 30) ((outs defs d nd (.mk ox sx n2 fx cx kx) i).map Dfn.iv) G2 w ∧ G2 (nx + 30 + 1 + 3) = .box [.imm (sv ny), .imm (.int .i64 oy), .imm (sv sy), .imm (.int .i64 n1), .imm (.int .i64 fy), .imm (.lst (Trm.ivs cy)), .imm (.lst (Exp.ivs ky))] false)
        ⟨at_upd, at_upd, at_upd, at_upd, at_upd, at_upd, ho.fr, at_upd⟩ ?_
      clear h0 h1 h2 h18 h22 h24 ho G
      rintro G ⟨h0, h1, h2, h18, h22, h24, ho, h34⟩
      refine W.nodes _ hyf (fun k G1 => (∀ o, o < nx + 40 → G1 o = G o) ∧ ((allE (.mk oy sy n1 fy cy ky)).take k).any (asksE nd) = false) (fun G1 => G1 1 = .box ty29.zero.cells false ∧ G1 2 = .box [.imm (.int .i64 7)] false ∧ (allE (.mk oy sy n1 fy cy ky)).any (asksE nd) = true) (fun _ _ _ => False)
        rfl rfl rfl rfl rfl ?_ ?_ ?_ ?_ ?_ ?_ ?_
      · rintro k G1 G2 ⟨h3, h4⟩ hG
        exact ⟨fun o h5 => (hG o (by omega)).trans (h3 o h5), h4⟩
      · rintro G1 G2 ⟨h3, h4, h5⟩ hG
        exact ⟨(hG 1 (by omega)).trans h3, (hG 2 (by omega)).trans h4, h5⟩
      · exact ⟨fun _ _ => rfl, rfl⟩
      · rintro q k z G1 nx1 lp0 lp1 Φr hq hza hn ⟨h3, h4⟩ hlp next stop _
        have hst : asksE nd z = false → ((allE (.mk oy sy n1 fy cy ky)).take (k + 1)).any (asksE nd) = false := fun h => by
          rw [List.take_add_one, hza, List.any_append, h4]; simp [h]
        have hhit : asksE nd z = true → (allE (.mk oy sy n1 fy cy ky)).any (asksE nd) = true := fun h => any_at hza h
        obtain ⟨oz, sz, nz, fz, cz, kz⟩ := z
        simp only [asksE, Exp.op, Exp.name] at hst hhit
        refine W.regionN ?_
        refine AQ ?_
        refine R.doneAstQ at_upd ?_
        refine W.gen' (fun G2 => G2 (nx1 + 0) = .box [.imm (.int .i64 oz), .imm (sv sz), .imm (.int .i64 nz), .imm (.int .i64 fz), .imm (.lst (Trm.ivs cz)), .imm (.lst (Exp.ivs kz))] false ∧ G2 q = lp1 ∧ ∀ o, o < nx1 → o ≠ q → G2 o = G1 o) ⟨at_upd, at_upd, fun o _ _ => at_upd⟩ ?_
        rintro G2 ⟨hbx, hlp2, hfr2⟩
        have g1 := (hfr2 1 (by omega) (by omega)).trans ((h3 1 (by omega)).trans h1)
        have g2 := (hfr2 2 (by omega) (by omega)).trans ((h3 2 (by omega)).trans h2)
        have g18 := (hfr2 18 (by omega) (by omega)).trans ((h3 18 (by omega)).trans h18)
        rcases Bool.eq_false_or_eq_true (oz == 3) with hA | hA
        · rcases Bool.eq_false_or_eq_true (sz == nd) with hB | hB
          · refine AN ?_
            exact stop (by omega) (fun o g5 g6 => Eq.trans at_upd (hfr2 o g6 (by omega))) ⟨at_upd, at_upd, hhit (by rw [hA, hB]; rfl)⟩ (Eq.trans at_upd hlp2)
          · refine AN ?_
            exact next (by omega) (fun o g5 g6 => hfr2 o g6 (by omega)) ⟨fun o g5 => (hfr2 o (by omega) (by omega)).trans (h3 o g5), hst (by rw [hA, hB]; rfl)⟩ hlp2
        · refine AN ?_
          exact next (by omega) (fun o g5 g6 => hfr2 o g6 (by omega)) ⟨fun o g5 => (hfr2 o (by omega) (by omega)).trans (h3 o g5), hst (by rw [hA]; rfl)⟩ hlp2
      · rintro G1 nx1 ⟨h3, h4⟩ hn
        rw [List.take_length] at h4
        have hno' := hany false h4
        have g0 := (h3 0 (by omega)).trans h0
        have g1 := (h3 1 (by omega)).trans h1
        have g2 := (h3 2 (by omega)).trans h2
        have g18 := (h3 18 (by omega)).trans h18
        have g22 := (h3 22 (by omega)).trans h22
        have g24 := (h3 24 (by omega)).trans h24
        have g34 := (h3 (nx + 30 + 1 + 3) (by omega)).trans h34
        have go : Own 70 7 30 (nx + 30) ((outs defs d nd (.mk ox sx n2 fx cx kx) i).map Dfn.iv) G1 w := ho.frame (Nat.le_refl _) fun o _ h => h3 o (by omega)
        obtain ⟨nx1, rfl⟩ : ∃ m, nx1 = m + 40 := ⟨nx1 - 40, by omega⟩
        clear h0 h1 h2 h18 h22 h24 h34 ho h3
        rcases Bool.eq_false_or_eq_true ((i : Int) != (d : Int)) with hne | hne
        · have hne' : i ≠ d := fun h => by rw [h] at hne; simp at hne
          have hnext := hnext hne'
          generalize hput : putE nd (.mk ox sx n2 fx cx kx) (.mk oy sy n1 fy cy ky) = py at *
          have hput2 : putD nd (.mk ox sx n2 fx cx kx) ⟨ny, .mk oy sy n1 fy cy ky⟩ = ⟨ny, py⟩ := by unfold putD; rw [hput]
          rw [hput2] at hnext
          obtain ⟨op, sp, np, fp, cp, kp⟩ := py
          refine AA ?_
          refine D.app1 go at_upd (by simp only [List.length_map, most]; omega) fun v' G' rd o' ho' hG' hlo => ?_
          have hoo : Own 70 7 30 (nx1 + 40 + 3 + 16) ((outs defs d nd (.mk ox sx n2 fx cx kx) (i + 1)).map Dfn.iv) G' v' := by rw [hnext, List.map_append]; exact ho'
          have hv1 := ho'.cells1
          have hv2 := ho'.one1
          have g0 := (hG' 0 (by omega)).trans (Eq.trans at_upd g0)
          have g1 := (hG' 1 (by omega)).trans (Eq.trans at_upd g1)
          have g2 := (hG' 2 (by omega)).trans (Eq.trans at_upd g2)
          have g18 := (hG' 18 (by omega)).trans (Eq.trans at_upd g18)
          have g22 := (hG' 22 (by omega)).trans (Eq.trans at_upd g22)
          have g24 := (hG' 24 (by omega)).trans (Eq.trans at_upd g24)
          refine AD ?_
          refine D.skip (by kernel_rfl) ?_
          refine AA ?_
          exact W.skipLop (i + 1, v') hmu .auto ⟨by omega, at_upd, at_upd, at_upd, at_upd, at_upd, at_upd, hlt, hno', hoo.fr⟩
        · have hne' : i = d := by
            have : ((i : Int) == (d : Int)) = true := by simpa [bne] using hne
            have := beq_iff_eq.1 this; omega
          refine AA ?_
          refine W.skipLop (i + 1, w) hmu .auto ⟨by omega, g0, g1, g2, g18, g22, g24, hlt, hno', ?_⟩
          show Own 70 7 30 _ ((outs defs d nd (.mk ox sx n2 fx cx kx) (i + 1)).map Dfn.iv) _ w
          subst hne'
          rw [outs_same]
          exact go.up (by omega)
      · rintro G1 nx1 ⟨h3, h4, h5⟩ hn
        rw [hall h5, if_pos rfl]
        refine AA ?_
        exact W.retFinCC rfl h3 rfl rfl rfl h4 rfl rfl ⟨[], rfl⟩
      · intro _ _ _ h; exact h.elim
    · have hge : defs.length ≤ i := by have := of_decide_eq_false hcc; omega
      rw [List.take_of_length_le hge] at hno
      rw [outs_all hge hxd] at ho
      rw [hno, if_neg (by decide)]
      obtain ⟨ids, hids, hidm⟩ := peek_rows h22 rfl ho
      cases pr with
      | true =>
        rw [if_pos rfl] at hpR
        have hft : AV.fits 2 (.agg [.row 22 (srcs.map sv).length, w]) = true := by
          show ((2 == 2) && (true && (w.one && true))) = true
          rw [hw2]; rfl
        refine AA ?_
        refine R.opU (O.callFz (ids := ids) rfl (peeks_cons (vs := []) ((congrArg (Go.Abs.peek G pkDepth) hmk).trans hids)) hpR rfl) rfl ?_
        have hun : ∀ o, o < 30 → o ≠ 22 → updL G (frz ids) o = G o := fun o h1 h2 => by
          rw [updL_frz, if_neg]
          intro h
          rcases hidm o h with h | h <;> omega
        have hor : ∀ o, updL G (frz ids) o = G o ∨ updL G (frz ids) o = (G o).freeze := fun o => by
          rw [updL_frz]; split
          · exact .inr rfl
          · exact .inl rfl
        have hrw2 : Rdx 2 (updL G (frz ids)) (fun o => 3 ≤ o) (.agg [.row 22 (srcs.map sv).length, w]) (Pgm.mk srcs ((defs.eraseIdx d).map (putD nd (.mk ox sx n2 fx cx kx)))).iv := by
          refine Rdx.agg (d := 1) (.cons ?_ (.cons ((ho.rdxF fun o _ _ => hor o).frame (fun _ _ => rfl) fun _ h => by omega) .nil))
          rcases hor 22 with h | h
          · exact Rdx.row (d := 0) (e := 9) (sz := 1) (fr := false) (h.trans h22) (List.length_map ..) (All2.imms 0 _ _ _) (by omega)
          · exact Rdx.row (d := 0) (e := 9) (sz := 1) (fr := true) (by rw [h, h22]; rfl) (List.length_map ..) (All2.imms 0 _ _ _) (by omega)
        have k1 := (hun 1 (by omega) (by omega)).trans h1
        have k2 := (hun 2 (by omega) (by omega)).trans h2
        have k24 := (hun 24 (by omega) (by omega)).trans h24
        generalize updL G (frz ids) = G3 at *
        refine AA ?_
        refine R.opN1 (O.storeP rfl (congrArg some hmk) hft k1 rfl rfl) ?_
        refine AA ?_
        refine W.retFinCC (cs := [.row 22 (srcs.map sv).length, w]) rfl at_upd rfl rfl rfl at_upd rfl rfl ?_
        rw [hmk]
        exact Rdx.peek (d := 3) (P := fun o => 3 ≤ o) (Rdx.tup (d := 2) (.cons (hrw2.frame (fun o h => at_upd) fun _ h => h) (.cons (.imm ..) .nil))) (by decide)
      | false =>
        rw [if_neg (by decide)] at hpR
        refine AA ?_
        refine R.op0 (O.callG (ids := ids) rfl (peeks_cons (vs := []) ((congrArg (Go.Abs.peek G pkDepth) hmk).trans hids)) hpR rfl) rfl ?_
        refine AA ?_
        exact W.retFinCC rfl at_upd rfl rfl rfl at_upd rfl rfl ⟨[], rfl⟩
end Go.Abs

/- Inlines. -/
open Go Go.Abs
namespace Go.Abs
set_option maxRecDepth 100000
set_option maxHeartbeats 4000000

theorem inlR_ok (p : Pgm) (hp : p.Fits) (d : Int) : (inlR p d).1.srcs.length ≤ 9223372036854775807 ∧ (inlR p d).1.defs.length ≤ 9223372036854775807 ∧ ∀ x ∈ (inlR p d).1.defs, x.exp.Sm := by
  have hz : (⟨[], []⟩ : Pgm).srcs.length ≤ 9223372036854775807 ∧ (⟨[], []⟩ : Pgm).defs.length ≤ 9223372036854775807 ∧ ∀ x ∈ (⟨[], []⟩ : Pgm).defs, x.exp.Sm := ⟨by simp, by simp, fun x h => by cases h⟩
  unfold inlR
  split
  · rename_i h
    obtain ⟨hpr, n, x, rfl, hx⟩ := hasR_at h
    rw [Int.toNat_natCast, hx]
    dsimp only
    split
    · exact hz
    · split
      · have hf := inlP_fits (d := n) hp (List.mem_of_getElem? hx)
        refine ⟨hf.srcs, hf.defs, fun y hy => ?_⟩
        unfold inlP at hy
        obtain ⟨z, h1, rfl⟩ := List.mem_map.1 hy
        have hsm := countR_sm (progR_count hpr)
        exact putE_sm (hsm z (List.mem_of_mem_eraseIdx h1)) (hsm x (List.mem_of_getElem? hx))
      · exact hz
  · exact hz

theorem ret5 (p : Pgm) (hp : p.Fits) (d : Int) : Ret CC 5 [p.iv, .int .i64 d] (.bool true) := by
  have h21 := ret21 p hp d
  have h22 := ret22 p hp d
  obtain ⟨k1, k2, k3⟩ := inlR_ok p hp d
  have h23 := ret23 k1 k2 k3
  have h14 := ret14
  generalize (inlR p d).2 = e at *
  generalize (inlR p d).1 = q at *
  have b1 : (e == e) = true := by simp
  obtain ⟨srcs, defs⟩ := p
  obtain ⟨srcs2, defs2⟩ := q
  refine Ret.of (fn := Go.Proofs.Try.f5) (by kernel_rfl) rfl rfl ?_
  refine AA ?_
  exact W.retFin1 rfl ⟨[], rfl⟩
end Go.Abs
