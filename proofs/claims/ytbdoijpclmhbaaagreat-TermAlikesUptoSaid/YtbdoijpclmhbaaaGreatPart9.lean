/- The reference: the rings of a program. -/
import Derived.Test.YtbdoijpclmhbaaaGreatPart8
open Go Go.Abs
namespace Go.Abs
set_option maxRecDepth 100000
set_option maxHeartbeats 4000000
instance fnis55 : FnIs CC 66 := ⟨rfl, fun _ => rfl⟩
def at2 (m : List (List Bool)) (i j : Nat) : Bool := (m.getD i []).getD j false
def inRing (m : List (List Bool)) (i k : Nat) : Bool := k == i || (at2 m i k && at2 m k i)
def ringTo (m : List (List Bool)) (i k : Nat) : List Nat := (List.range k).filter (inRing m i)
def ringIs (m : List (List Bool)) (i : Nat) : Bool := at2 m i i && (ringTo m i m.length).head? == some i
def ringsTo (m : List (List Bool)) (i : Nat) : List (List Nat) := ((List.range i).filter (ringIs m)).map fun i => ringTo m i m.length
def ringsR (m : List (List Bool)) : List (List Nat) := ringsTo m m.length
theorem ringTo_succ (m : List (List Bool)) (i k : Nat) : ringTo m i (k + 1) = ringTo m i k ++ (if inRing m i k then [k] else []) := by
  unfold ringTo
  rw [List.range_succ, List.filter_append]
  congr 1
  simp only [List.filter_cons, List.filter_nil]
theorem ringsTo_succ (m : List (List Bool)) (i : Nat) : ringsTo m (i + 1) = ringsTo m i ++ (if ringIs m i then [ringTo m i m.length] else []) := by
  unfold ringsTo
  rw [List.range_succ, List.filter_append, List.map_append]
  congr 1
  simp only [List.filter_cons, List.filter_nil]
  split <;> rfl
theorem beq_cast (k i : Nat) : ((k : Int) == (i : Int)) = (k == i) := by
  rw [Bool.eq_iff_iff]; simp only [beq_iff_eq]; omega
theorem ringTo_len (m : List (List Bool)) (i k : Nat) : (ringTo m i k).length ≤ k := by
  unfold ringTo
  have := List.length_filter_le (inRing m i) (List.range k)
  simpa using this
theorem ringsTo_len (m : List (List Bool)) (i : Nat) : (ringsTo m i).length ≤ i := by
  unfold ringsTo
  have := List.length_filter_le (ringIs m) (List.range i)
  simpa using this
theorem ringTo_ne (m : List (List Bool)) (i k : Nat) (h : i < k) : ringTo m i k ≠ [] := by
  intro he
  have : i ∈ ringTo m i k := by unfold ringTo; rw [List.mem_filter]; exact ⟨List.mem_range.2 h, by unfold inRing; simp⟩
  rw [he] at this; cases this
theorem ret55 (p : Pgm) (m : List (List Bool)) (hr53 : Ret CC 128 [p.iv] (.lst (m.map boolsIV))) (hm : ∀ row ∈ m, row.length = m.length) (h6 : m.length ≤ 6) : Ret CC 66 [p.iv] (.lst ((ringsR m).map natsIV)) := by
  obtain ⟨srcs, defs⟩ := p
  have hml : (m.map boolsIV).length = m.length := List.length_map ..
  have cell : ∀ i j, i < m.length → j < m.length → ∃ row, (m.map boolsIV)[(i : Int).toNat]? = some (boolsIV row) ∧ (row.map IV.bool)[(j : Int).toNat]? = some (.bool (at2 m i j)) := by
    intro i j hi hj
    obtain ⟨row, hr⟩ := at_lt hi
    refine ⟨row, at_map boolsIV hr, ?_⟩
    have hl := hm row (List.mem_of_getElem? hr)
    obtain ⟨b, hb⟩ : ∃ b, row[j]? = some b := at_lt (by omega)
    have : at2 m i j = b := by unfold at2; rw [List.getD_eq_getElem?_getD, List.getD_eq_getElem?_getD, hr]; simp [hb]
    rw [this]
    exact at_map IV.bool hb
  refine Ret.of (fn := Go.Proofs.Tryz.f66) (by kernel_rfl) rfl rfl ?_
  refine W.seq (W.region ?_)
  refine R.op1 (O.boxS (cs := [.imm (.lst (srcs.map sv)), .imm (.lst (defs.map Dfn.iv))]) rfl rfl rfl) rfl ?_
  refine SS ?_
  refine W.loop (X := Nat × AV) (fun x => [(3, .imm (.lst (m.map boolsIV))), (5, .imm (.int .i64 x.1)), (4, x.2)])
    (fun x nx G => x.1 ≤ m.length ∧ 1 ≤ nx ∧ OwnV 1 44 1 1 nx ((ringsTo m x.1).map natsIV) G x.2) (fun x => m.length - x.1) (0, .nils)
    .auto ⟨Nat.zero_le _, by simp, .inl ⟨rfl, rfl⟩⟩ ?_
  rintro ⟨i, v⟩ hi0 G ⟨hi, hnx, ho⟩
  dsimp only at hi ho ⊢
  refine SS ?_
  refine W.cond rfl (fun h1 => ?_) (fun h1 => ?_)
  · have h1' : i < m.length := by have := of_decide_eq_true h1; omega
    have hmu : m.length - (i + 1) < m.length - i := by omega
    obtain ⟨rowi, ci1, ci2⟩ := cell i i h1' h1'
    have hsucc := ringsTo_succ m i
    cases hii : at2 m i i with
    | false =>
      rw [hii] at ci2
      rw [show ringIs m i = false by unfold ringIs; rw [hii]; rfl, if_neg (by decide), List.append_nil] at hsucc
      refine SS ?_
      refine W.skipLop (i + 1, v) hmu .auto ⟨h1', by omega, ?_⟩
      show OwnV 1 44 1 1 _ ((ringsTo m (i + 1)).map natsIV) _ v
      rw [hsucc]
      exact ho.frame (by omega) fun _ _ _ => rfl
    | true =>
      rw [hii] at ci2
      refine SS ?_
      refine W.loop (X := Nat × AV) (fun x => [(3, .imm (.lst (m.map boolsIV))), (5, .imm (.int .i64 i)), (4, v), (7, .imm (.int .i64 x.1)), (6, x.2)])
        (fun x nx G => OwnV 1 44 1 1 hi0 ((ringsTo m i).map natsIV) G v ∧ x.1 ≤ m.length ∧ hi0 ≤ nx ∧ Own 3 1 hi0 nx ((ringTo m i x.1).map natIV) G x.2) (fun x => m.length - x.1) (0, .nils)
        .auto ⟨ho, Nat.zero_le _, by omega, .inl ⟨rfl, rfl⟩⟩ ?_
      clear ho
      rintro ⟨k, t⟩ nx G ⟨ho, hk, hnx2, ht⟩
      dsimp only at hk ht ⊢
      refine SS ?_
      refine W.cond rfl (fun h2 => ?_) (fun h2 => ?_)
      · have h2' : k < m.length := by have := of_decide_eq_true h2; omega
        obtain ⟨rowik, a1, a2⟩ := cell i k h1' h2'
        obtain ⟨rowk, b1, b2⟩ := cell k i h2' h1'
        have hst := ringTo_succ m i k
        have hmu2 : m.length - (k + 1) < m.length - k := by omega
        have hlen := ringTo_len m i k
        have hin : inRing m i k = ((k : Int) == (i : Int) || (at2 m i k && at2 m k i)) := by unfold inRing; rw [beq_cast]
        generalize at2 m i k = x at a2 hin
        generalize at2 m k i = y at b2 hin
        have hcase : (((k : Int) == (i : Int)) = true ∨ (((k : Int) == (i : Int)) = false ∧ x = true ∧ y = true)) ∨ ((((k : Int) == (i : Int)) = false ∧ x = false) ∨ (((k : Int) == (i : Int)) = false ∧ x = true ∧ y = false)) := by
          cases ((k : Int) == (i : Int)) <;> cases x <;> cases y <;> simp
        rcases hcase with hyes | hno
        · have hy : inRing m i k = true := by rw [hin]; rcases hyes with h | ⟨h, rfl, rfl⟩ <;> rw [h] <;> rfl
          rw [hy, if_pos rfl] at hst
          rcases hyes with hA | ⟨hA, rfl, rfl⟩
          iterate 2
            · refine SS ?_
              refine R.op1 (O.buildS (n := 1) (ke := ty3) (xs := [.imm (.int .i64 k)]) rfl rfl rfl (by decide) rfl rfl (by decide)) rfl ?_
              refine R.appOwn (lo := hi0) (ys := [natIV k]) rfl rfl rfl (ht.upd (by omega) (by omega)) rfl (by simp [elems, upd]; rfl) (by decide) (by decide) rfl (by simp [natIV]; rfl) (by simp only [List.length_map, List.length_cons, List.length_nil, most]; omega) ⟨by omega, by simp only [List.length_cons, List.length_nil]; omega⟩ rfl fun v' G' ho' hG' => ?_
              have hfr : ∀ o, o < hi0 → G' o = G o := fun o h => by rw [hG' o h, upd_ne _ _ _ _ (by omega)]
              refine SS ?_
              refine W.skipLop (k + 1, v') hmu2 .auto ⟨ho.frame (Nat.le_refl _) fun o _ h => hfr o h, h2', by omega, ?_⟩
              show Own 3 1 hi0 _ ((ringTo m i (k + 1)).map natIV) G' v'
              rw [hst, List.map_append]
              exact ho'.up (by omega)
        · have hy : inRing m i k = false := by rw [hin]; rcases hno with ⟨h, rfl⟩ | ⟨h, rfl, rfl⟩ <;> rw [h] <;> rfl
          rw [hy, if_neg (by decide), List.append_nil] at hst
          rcases hno with ⟨hA, rfl⟩ | ⟨hA, rfl, rfl⟩
          iterate 2
            · refine SS ?_
              refine W.skipLop (k + 1, t) hmu2 .auto ⟨ho, h2', by omega, ?_⟩
              show Own 3 1 hi0 _ ((ringTo m i (k + 1)).map natIV) _ t
              rw [hst]
              exact ht.up (by omega)
      · have h2' : k = m.length := by have := of_decide_eq_false h2; omega
        subst h2'
        have hne := ringTo_ne m i m.length h1'
        have hlen := ringTo_len m i m.length
        have hlen2 := ringsTo_len m i
        have hfit := ht.fits1
        have hrdx := ht.rdx
        generalize hring : ringTo m i m.length = ring at *
        obtain ⟨x, rest, rfl⟩ : ∃ x rest, ring = x :: rest := by cases ring with
          | nil => exact (hne rfl).elim
          | cons x rest => exact ⟨x, rest, rfl⟩
        rcases ht with ⟨hTn, _⟩ | ⟨ot, ho1, ho2, rfl, hGt⟩
        · cases hTn
        have f3 : (((x :: rest).map natIV).map AV.imm)[(0 : Int).toNat]? = some (.imm (natIV x)) := rfl
        have f4 : (((x :: rest).map natIV).map AV.imm).length = ((x :: rest).map natIV).length := List.length_map ..
        have f5 : ((x :: rest).map natIV).length = rest.length + 1 := by simp
        have his : ringIs m i = ((x : Int) == (i : Int)) := by
          unfold ringIs
          rw [hii, hring, beq_cast]
          simp
        rw [his] at hsucc
        rcases Bool.eq_false_or_eq_true ((x : Int) == (i : Int)) with hA | hA
        · rw [hA, if_pos rfl] at hsucc
          refine SS ?_
          refine R.op1 (O.buildS (n := 1) (ke := ty30) (xs := [.row ot ((x :: rest).map natIV).length]) rfl rfl rfl (by decide) rfl rfl (by decide)) rfl ?_
          refine R.appOwnV (d' := 1) (lo := 1) (hi := hi0) (ws := [.row ot ((x :: rest).map natIV).length]) (ys := [natsIV (x :: rest)]) rfl rfl rfl (ho.frame (Nat.le_refl _) fun o _ h => upd_ne _ _ _ _ (by omega)) rfl (by simp [elems, upd]) (by decide) (by decide) rfl rfl (by simp only [List.length_map, List.length_cons, List.length_nil, most]; omega) ⟨by omega, by omega⟩ (fun G' h1 h2 => ⟨?_, trivial⟩) rfl fun v' G' ho' hG1 hG2 => ?_
          · exact hrdx.frame (fun o ho => by rw [h2 o ho.1 (by omega), upd_ne _ _ _ _ (by omega)]) fun o ho => ⟨ho.1, by omega⟩
          · refine SS ?_
            refine W.skipLop (i + 1, v') hmu .auto ⟨h1', by omega, ?_⟩
            show OwnV 1 44 1 1 _ ((ringsTo m (i + 1)).map natsIV) G' v'
            rw [hsucc, List.map_append]
            exact ho'.frame (by simp only [List.length_cons, List.length_nil]; omega) fun _ _ _ => rfl
        · rw [hA, if_neg (by decide), List.append_nil] at hsucc
          refine SS ?_
          refine W.skipLop (i + 1, v) hmu .auto ⟨h1', by omega, ?_⟩
          show OwnV 1 44 1 1 _ ((ringsTo m (i + 1)).map natsIV) _ v
          rw [hsucc]
          exact ho.frame (by omega) fun _ _ _ => rfl
  · have h1' : i = m.length := by have := of_decide_eq_false h1; omega
    subst h1'
    refine SS ?_
    refine W.retFin1 rfl ?_
    exact ho.rdx.peek (by decide)
end Go.Abs

/- What is known of programs that have a number of nodes. (No program in sight.) -/
open Go Go.Abs
namespace Go.Abs
set_option maxRecDepth 100000
mutual
theorem expR_ok (srcs defs : List Str) (ahead : Nat) : ∀ (e : Exp) (depth left : Int), 0 ≤ expR srcs defs ahead e depth left → ((allE e).length : Int) ≤ expR srcs defs ahead e depth left ∧ ∀ x ∈ allE e, namesDef x = true → x.name ∈ defs
  | .mk op name n fold calcs kids, depth, left, h => by
    rw [expR] at h ⊢
    rw [allE]
    cases hs : shapeR op with
    | none => rw [hs] at h; simp at h
    | some s =>
      rw [hs] at h
      dsimp only at h ⊢
      split at h
      · omega
      · rename_i hdl
        rw [if_neg hdl]
        split at h
        · rename_i hh
          rw [if_pos hh]
          split at h
          · omega
          · rename_i hc
            rw [if_neg hc]
            have h1 := calcRs_le calcs (Go.Abs.other op) 0 left 1 (by omega) (by omega)
            obtain ⟨a, b⟩ := expRs_ok srcs defs ahead kids depth left _ (by omega) h
            refine ⟨by simp only [List.length_cons]; omega, fun x hx hn => ?_⟩
            rcases List.mem_cons.1 hx with rfl | hx
            · have hni : nameIs srcs defs ahead op name = true := by
                unfold headIs at hh
                simp only [Bool.and_eq_true] at hh
                exact hh.2
              unfold nameIs at hni
              unfold namesDef at hn
              simp only [Exp.op, Bool.or_eq_true, beq_iff_eq] at hn
              rcases hn with rfl | rfl
              · simp at hni
                exact List.mem_of_mem_take hni
              · simp at hni
                exact hni
            · exact b x hx hn
        · omega
theorem expRs_ok (srcs defs : List Str) (ahead : Nat) : ∀ (l : List Exp) (depth left n : Int), 0 ≤ n → 0 ≤ expRs srcs defs ahead l depth left n → ((allEs l).length : Int) + n ≤ expRs srcs defs ahead l depth left n ∧ ∀ x ∈ allEs l, namesDef x = true → x.name ∈ defs
  | [], _, _, n, h0, h => by rw [expRs, allEs]; exact ⟨by simp, fun x hx => by cases hx⟩
  | k :: r, depth, left, n, h0, h => by
    rw [expRs] at h ⊢
    rw [allEs]
    split at h
    · omega
    · rename_i hk
      rw [if_neg hk]
      obtain ⟨a, b⟩ := expR_ok srcs defs ahead k (depth + 1) (left - n) (by omega)
      obtain ⟨c, d⟩ := expRs_ok srcs defs ahead r depth left _ (by omega) h
      refine ⟨by simp only [List.length_append]; omega, fun x hx hn => ?_⟩
      rcases List.mem_append.1 hx with hx | hx
      · exact b x hx hn
      · exact d x hx hn
end
theorem countL_ok (srcs names : List Str) : ∀ (ds : List Dfn) (i : Nat) (n : Int), 0 ≤ n ∧ n ≤ 60 → 0 ≤ countL srcs names ds i n → (countL srcs names ds i n ≤ 60) ∧ ∀ d ∈ ds, (allE d.exp).length ≤ 60 ∧ ∀ x ∈ allE d.exp, namesDef x = true → x.name ∈ names
  | [], _, n, hn, h => by rw [countL]; exact ⟨hn.2, fun d hd => by cases hd⟩
  | d :: r, i, n, hn, h => by
    rw [countL] at h ⊢
    split at h
    · omega
    · rename_i hk
      rw [if_neg hk]
      have hle := expR_le srcs names i d.exp 1 (60 - n)
      obtain ⟨a, b⟩ := expR_ok srcs names i d.exp 1 (60 - n) (by omega)
      obtain ⟨c, e⟩ := countL_ok srcs names r (i + 1) _ (by omega) h
      refine ⟨c, fun x hx => ?_⟩
      rcases List.mem_cons.1 hx with rfl | hx
      · exact ⟨by omega, b⟩
      · exact e x hx
structure Pgm.Good (p : Pgm) : Prop where
  defs : p.defs.length ≤ 6
  srcs : p.srcs.length ≤ 4
  size : ∀ d ∈ p.defs, (allE d.exp).length ≤ 60
  names : ∀ d ∈ p.defs, ∀ x ∈ allE d.exp, namesDef x = true → x.name ∈ defNames p
theorem countR_good {p : Pgm} (h : 0 ≤ countR p) : p.Good := by
  unfold countR at h
  split at h
  · omega
  · rename_i h0
    split at h
    · obtain ⟨_, b⟩ := countL_ok p.srcs (defNames p) p.defs 0 0 (by omega) h
      exact ⟨by omega, by omega, fun d hd => (b d hd).1, fun d hd => (b d hd).2⟩
    · omega
theorem idxFrom_mem {s : Str} : ∀ {l : List Str} {k : Nat}, s ∈ l → ∃ n : Nat, idxFrom l s k = (n : Int) ∧ k ≤ n ∧ n < k + l.length
  | x :: r, k, h => by
    unfold idxFrom
    by_cases hx : (x == s) = true
    · rw [if_pos hx]; exact ⟨k, rfl, Nat.le_refl _, by simp⟩
    · rw [if_neg hx]
      have hne : s ≠ x := fun e => hx (by rw [e]; simp)
      obtain ⟨n, a, b, c⟩ := idxFrom_mem (l := r) (k := k + 1) (by rcases List.mem_cons.1 h with h | h; exact absurd h hne; exact h)
      exact ⟨n, a, by omega, by simp only [List.length_cons]; omega⟩
def tosR (p : Pgm) : List (List Nat) := (stepsR p).map fun t => t.map Int.toNat
theorem Pgm.Good.steps {p : Pgm} (h : p.Good) : stepsR p = (tosR p).map (fun t => t.map Int.ofNat) ∧ (tosR p).length = p.defs.length ∧ (∀ t ∈ tosR p, t.length ≤ 60) ∧ ∀ t ∈ tosR p, ∀ x ∈ t, x < (tosR p).length := by
  have hl : (tosR p).length = p.defs.length := by simp [tosR, stepsR]
  have hnl : (defNames p).length = p.defs.length := by have := h.defs; simp [defNames]; omega
  refine ⟨?_, hl, ?_, ?_⟩
  · unfold tosR
    rw [List.map_map]
    conv => lhs; rw [← List.map_id (stepsR p)]
    apply List.map_congr_left
    intro t ht
    simp only [id, Function.comp, List.map_map]
    conv => lhs; rw [← List.map_id t]
    apply List.map_congr_left
    intro x hx
    simp only [stepsR, List.mem_map] at ht
    obtain ⟨d, hd, rfl⟩ := ht
    simp only [stepsL, List.mem_map, List.mem_filter] at hx
    obtain ⟨y, ⟨hy, hn⟩, rfl⟩ := hx
    obtain ⟨n, hn', _⟩ := idxFrom_mem (k := 0) (h.names d hd y hy hn)
    have hn' : idxFrom (defNames p) y.name 0 = (n : Int) := hn'
    rw [hn']; rfl
  · intro t ht
    simp only [tosR, stepsR, List.map_map, List.mem_map] at ht
    obtain ⟨d, hd, rfl⟩ := ht
    have := stepsL_len (defNames p) (allE d.exp)
    have := h.size d hd
    simp only [Function.comp, List.length_map]
    omega
  · intro t ht x hx
    simp only [tosR, stepsR, List.map_map, List.mem_map] at ht
    obtain ⟨d, hd, rfl⟩ := ht
    simp only [Function.comp, stepsL, List.mem_map, List.mem_filter] at hx
    obtain ⟨z, ⟨y, ⟨hy, hn⟩, rfl⟩, rfl⟩ := hx
    obtain ⟨n, hn', _, hlt⟩ := idxFrom_mem (k := 0) (h.names d hd y hy hn)
    have hn' : idxFrom (defNames p) y.name 0 = (n : Int) := hn'
    rw [hn', hl]
    show n < _
    omega
end Go.Abs

/- The reference: which programs are formed, and how many nodes they have. -/
open Go Go.Abs
namespace Go.Abs
set_option maxRecDepth 100000
set_option maxHeartbeats 4000000
instance fnis36 : FnIs CC 20 := ⟨rfl, fun _ => rfl⟩
def foreAt (defs : List Dfn) (k : Nat) : Bool := match defs[k]? with
  | some d => aheadE d.exp
  | none => false
noncomputable def ringsOf (p : Pgm) : List (List Nat) := ringsR (reachR (tosR p))
noncomputable def progR (p : Pgm) : Bool := if countR p < 0 then false else (ringsOf p).all fun ring => ring.all fun k => !foreAt p.defs k
theorem reachR_len (tos : List (List Nat)) : (reachR tos).length = tos.length := by simp [reachR]
theorem reachR_row {tos : List (List Nat)} : ∀ row ∈ reachR tos, row.length = (reachR tos).length := by
  intro row hr
  simp only [reachR, List.mem_map] at hr
  obtain ⟨i, _, rfl⟩ := hr
  simp [reachRow, reachR]
theorem ringsTo_lt {m : List (List Bool)} {i : Nat} : ∀ r ∈ ringsTo m i, ∀ k ∈ r, k < m.length := by
  intro r hr k hk
  simp only [ringsTo, List.mem_map] at hr
  obtain ⟨i, _, rfl⟩ := hr
  simp only [ringTo, List.mem_filter, List.mem_range] at hk
  exact hk.1
theorem Pgm.Good.ret53 {p : Pgm} (h : p.Good) (hp : p.Fits) : Ret CC 128 [p.iv] (.lst ((reachR (tosR p)).map boolsIV)) := by
  obtain ⟨h1, h2, h3, h4⟩ := h.steps
  exact Go.Abs.ret53 p hp h.defs (fun d hd => by have := h.size d hd; omega) (tosR p) h1 (fun t ht => by have := h3 t ht; omega) h4
theorem Pgm.Good.ret55 {p : Pgm} (h : p.Good) (hp : p.Fits) : Ret CC 66 [p.iv] (.lst ((ringsOf p).map natsIV)) :=
  Go.Abs.ret55 p _ (h.ret53 hp) reachR_row (by rw [reachR_len, h.steps.2.1]; exact h.defs)
theorem Pgm.Good.rings_lt {p : Pgm} (h : p.Good) : ∀ r ∈ ringsOf p, ∀ k ∈ r, k < p.defs.length := by
  intro r hr k hk
  have := ringsTo_lt r hr k hk
  rwa [reachR_len, h.steps.2.1] at this
theorem ringsOf_len {p : Pgm} (h : p.Good) : (ringsOf p).length ≤ 6 := by
  have := ringsTo_len (reachR (tosR p)) (reachR (tosR p)).length
  unfold ringsOf ringsR
  rw [reachR_len, h.steps.2.1] at this ⊢
  have := h.defs
  omega
theorem ringsOf_le {p : Pgm} (h : p.Good) : ∀ r ∈ ringsOf p, r.length ≤ 6 := by
  intro r hr
  simp only [ringsOf, ringsR, ringsTo, List.mem_map] at hr
  obtain ⟨i, _, rfl⟩ := hr
  have := ringTo_len (reachR (tosR p)) i (reachR (tosR p)).length
  rw [reachR_len, h.steps.2.1] at this ⊢
  have := h.defs
  omega
theorem all_take {α : Type} {p : α → Bool} {l : List α} {i : Nat} {x : α} (h : l[i]? = some x) (hi : (l.take i).all p = true) (hx : p x = true) : (l.take (i + 1)).all p = true := by
  rw [List.take_add_one, h, List.all_append, hi]; simp [hx]
theorem all_of_take {α : Type} {p : α → Bool} {l : List α} {i : Nat} (h : l.length ≤ i) (hi : (l.take i).all p = true) : l.all p = true := by
  rw [List.take_of_length_le h] at hi; exact hi
theorem all_not {α : Type} {p : α → Bool} {l : List α} {i : Nat} {x : α} (h : l[i]? = some x) (hx : p x = false) : l.all p = false :=
  List.all_eq_false.2 ⟨x, List.mem_of_getElem? h, by rw [hx]; decide⟩
theorem ret36 (p : Pgm) (hp : p.Fits) : Ret CC 20 [p.iv] (.bool (progR p)) := by
  have hr65 := ret65 p hp
  by_cases hc : 0 ≤ countR p
  · have hg := countR_good hc
    have hr55 := hg.ret55 hp
    have hlt := hg.rings_lt
    have hrl := ringsOf_len hg
    have hre := ringsOf_le hg
    have hsz := hg.size
    have hpr : progR p = (ringsOf p).all fun ring => ring.all fun k => !foreAt p.defs k := by unfold progR; rw [if_neg (by omega)]
    rw [hpr]
    clear hpr
    generalize ringsOf p = rings at *
    have hd6 := hg.defs
    obtain ⟨srcs, defs⟩ := p
    simp only at hlt hsz hd6 ⊢
    have hdm : (defs.map Dfn.iv).length = defs.length := List.length_map ..
    have hrm : (rings.map natsIV).length = rings.length := List.length_map ..
    have hneg : decide (countR ⟨srcs, defs⟩ < 0) = false := by simp; omega
    refine Ret.of (fn := Go.Proofs.Tryz.f20) (by kernel_rfl) rfl rfl ?_
    refine W.seq (W.region ?_)
    refine R.op1 (O.boxS (cs := [.imm (.lst (srcs.map sv)), .imm (.lst (defs.map Dfn.iv))]) rfl rfl rfl) rfl ?_
    refine SS ?_
    refine W.loop (X := Nat) (fun i => [(1, .ptr 0 0), (3, .imm (.lst (rings.map natsIV))), (4, .imm (.int .i64 i))])
      (fun i nx G => G 0 = .box [.imm (.lst (srcs.map sv)), .imm (.lst (defs.map Dfn.iv))] false ∧ i ≤ rings.length ∧ (rings.take i).all (fun ring => ring.all fun k => !foreAt defs k) = true) (fun i => rings.length - i) 0
      .auto ⟨rfl, Nat.zero_le _, rfl⟩ ?_
    rintro i nx G ⟨hG, hi, ha⟩
    refine SS ?_
    refine W.cond rfl (fun h1 => ?_) (fun h1 => ?_)
    · have h1' : i < rings.length := by have := of_decide_eq_true h1; omega
      have hmu : rings.length - (i + 1) < rings.length - i := by omega
      obtain ⟨ring, hx⟩ := at_lt h1'
      have hxi := at_map natsIV hx
      have hmem := List.mem_of_getElem? hx
      have hrg : (ring.map natIV).length = ring.length := List.length_map ..
      have hr6 := hre ring hmem
      refine SS ?_
      refine W.loop (X := Nat) (fun j => [(1, .ptr 0 0), (3, .imm (.lst (rings.map natsIV))), (4, .imm (.int .i64 i)), (5, .imm (.int .i64 j))])
        (fun j nx G => G 0 = .box [.imm (.lst (srcs.map sv)), .imm (.lst (defs.map Dfn.iv))] false ∧ j ≤ ring.length ∧ (ring.take j).all (fun k => !foreAt defs k) = true) (fun j => ring.length - j) 0
        .auto ⟨hG, Nat.zero_le _, rfl⟩ ?_
      clear hG
      rintro j nx G ⟨hG, hj, hb⟩
      refine SS ?_
      refine W.cond rfl (fun h2 => ?_) (fun h2 => ?_)
      · have h2' : j < ring.length := by have := of_decide_eq_true h2; omega
        have hmu2 : ring.length - (j + 1) < ring.length - j := by omega
        obtain ⟨k, hk⟩ := at_lt h2'
        have hki := at_map natIV hk
        have hkn := hlt ring hmem k (List.mem_of_getElem? hk)
        obtain ⟨d, hd⟩ := at_lt hkn
        have hdi := at_map Dfn.iv hd
        have hdc := d.cells_len
        have hdm := List.mem_of_getElem? hd
        have hr68 := ret68 (hp.exp d hdm) (by have := hsz d hdm; omega)
        have hfa : foreAt defs k = aheadE d.exp := by unfold foreAt; rw [hd]
        have yes := fun h => all_not (p := fun k => !foreAt defs k) hk h
        have no := fun h => all_take (p := fun k => !foreAt defs k) hk hb h
        have yes2 := fun h => all_not (p := fun ring => ring.all fun k => !foreAt defs k) hx h
        rw [hfa] at yes no
        obtain ⟨nm, ⟨o', s', n', f', c', k'⟩⟩ := d
        simp only at hr68 yes no
        generalize aheadE (.mk o' s' n' f' c' k') = b at hr68 yes no
        cases b with
        | true =>
          refine SS ?_
          exact W.retFin1 rfl ⟨[], by rw [yes2 (yes rfl)]; rfl⟩
        | false =>
          refine SS ?_
          exact W.skipLop (j + 1) hmu2 .auto ⟨hG, h2', no rfl⟩
      · have h2' : ring.length ≤ j := by have := of_decide_eq_false h2; omega
        have hall := all_of_take h2' hb
        refine SS ?_
        exact W.skipLop (i + 1) hmu .auto ⟨hG, h1', all_take hx ha hall⟩
    · have h1' : rings.length ≤ i := by have := of_decide_eq_false h1; omega
      have hall := all_of_take h1' ha
      refine SS ?_
      exact W.retFin1 rfl ⟨[], by rw [hall]; rfl⟩
  · have hpr : progR p = false := by unfold progR; rw [if_pos (by omega)]
    rw [hpr]
    have hneg : decide (countR p < 0) = true := by simp; omega
    obtain ⟨srcs, defs⟩ := p
    refine Ret.of (fn := Go.Proofs.Tryz.f20) (by kernel_rfl) rfl rfl ?_
    refine W.seq (W.region ?_)
    refine R.op1 (O.boxS (cs := [.imm (.lst (srcs.map sv)), .imm (.lst (defs.map Dfn.iv))]) rfl rfl rfl) rfl ?_
    refine SS ?_
    exact W.retFin1 rfl ⟨[], rfl⟩
end Go.Abs

/- One step of the logic after the other, as far as it goes, with memory. -/
open Go Go.Abs
namespace Go.Abs
set_option maxRecDepth 100000
theorem AB {P Q : Prop} (k : Q) (h : Hold Q → P := by
  intro k
  (repeat (first | (apply R.op0; (first | exact O.move rfl | exact O.assign rfl | exact O.fieldP rfl rfl rfl rfl | exact O.loadP rfl rfl rfl (by first | exact rfl | with_reducible assumption | assumption | exact at_upd) rfl | exact O.cmp rfl rfl rfl | exact O.int rfl rfl (add64 (by omega)) | exact O.int rfl rfl (sub64 (by omega)) | exact O.int rfl rfl (add8 (by omega)) | exact O.pickT rfl (by first | with_reducible rfl | with_reducible assumption | decide) rfl | exact O.pickF rfl (by first | with_reducible rfl | with_reducible assumption | decide) rfl | exact O.lenL rfl rfl | exact O.lenSv rfl rfl | exact O.lenS rfl rfl | exact O.not rfl | exact O.svEq rfl rfl | exact O.svNe rfl rfl | exact O.str rfl rfl rfl | exact O.boolEq rfl rfl rfl | exact O.boolNe rfl rfl rfl | exact O.fieldE rfl rfl rfl rfl | exact O.fieldR rfl rfl rfl rfl | exact O.loadPA rfl rfl (by first | exact rfl | with_reducible assumption | assumption | exact at_upd) rfl rfl | exact O.extr rfl rfl | exact O.nilP rfl | exact O.nilF rfl | exact O.extrT rfl rfl | exact O.makeFunc rfl rfl rfl | exact O.fieldF rfl rfl rfl rfl | exact O.loadF rfl rfl rfl rfl | exact O.loadFA rfl rfl rfl | exact O.ptrEq rfl rfl rfl rfl | exact O.ptrNe rfl rfl rfl rfl | exact O.max rfl rfl | (apply O.addrX; exact rfl; infer_instance; exact rfl; exact rfl; omega; (first | with_reducible assumption | assumption); (first | exact rfl | assumption)) | (apply O.load1; exact rfl; (first | with_reducible assumption | assumption); exact rfl; exact rfl; exact rfl) | (apply O.loadE; exact rfl; exact rfl; exact rfl; (first | with_reducible assumption | assumption); exact rfl) | (apply O.loadEA; exact rfl; exact rfl; (first | with_reducible assumption | assumption); exact rfl) | (apply O.call; exact rfl; exact rfl; (first | with_reducible assumption | assumption)) | (apply O.addrRX; exact rfl; infer_instance; exact rfl; exact rfl; (first | with_reducible assumption | assumption); (first | exact rfl | assumption); omega; exact rfl) | (apply O.loadRX; exact rfl; (first | with_reducible assumption | assumption); (first | exact rfl | assumption); (first | with_reducible assumption | assumption); exact rfl; exact rfl; exact rfl) | (apply O.lenO; exact rfl; exact rfl; (first | with_reducible assumption | assumption)) | (apply O.build; exact rfl; exact rfl; exact rfl; exact rfl) | (apply O.callV; exact rfl; infer_instance; exact rfl; exact rfl; (first | with_reducible assumption | assumption)) | (apply O.lookA; exact rfl; infer_instance; infer_instance; exact rfl; exact rfl; exact rfl; (first | with_reducible assumption | assumption))); exact rfl) | (apply R.op1; (first | exact O.boxS rfl rfl rfl | exact O.alloc rfl rfl | exact O.makeMap | (apply O.buildX; exact rfl; infer_instance; exact rfl; exact rfl; decide; exact rfl; exact rfl; decide)); exact rfl) | (apply R.opN1; (first | (apply O.storeP; exact rfl; exact rfl; exact rfl; (first | exact rfl | with_reducible assumption | assumption | exact at_upd); exact rfl; exact rfl) | (apply O.storeP1; exact rfl; exact rfl; exact rfl; assumption; assumption; (first | exact rfl | with_reducible assumption | assumption | exact at_upd); exact rfl; exact rfl))) | (apply R.guardT1; exact rfl; exact rfl; (first | with_reducible rfl | with_reducible assumption | decide)) | (apply R.guardT0; exact rfl; exact rfl; (first | with_reducible rfl | with_reducible assumption | decide)) | (apply R.guardF1; exact rfl; exact rfl; (first | with_reducible rfl | with_reducible assumption | decide); exact rfl) | (apply R.guardF0; exact rfl; exact rfl; (first | with_reducible rfl | with_reducible assumption | decide); exact rfl) | (apply R.guardN; exact rfl; exact rfl; exact rfl) | apply R.done | (first | apply W.seqR | apply W.seqC) | apply W.regionN | apply W.drawN | (apply W.condT; exact rfl; (first | with_reducible rfl | with_reducible assumption | decide)) | (apply W.condF; exact rfl; (first | with_reducible rfl | with_reducible assumption | decide)) | apply W.retAft | apply W.retBlk | apply W.retLop | apply W.exitAft | apply W.exitLop | apply W.exitBlk | (apply W.exitBlkNe; exact rfl) | apply W.skipAft | apply W.skipBlk | apply W.retCut | apply W.exitCut | apply R.skip | (apply D.op0; (first | exact O.move rfl | exact O.assign rfl | exact O.fieldP rfl rfl rfl rfl | exact O.loadP rfl rfl rfl (by first | exact rfl | with_reducible assumption | assumption | exact at_upd) rfl | exact O.cmp rfl rfl rfl | exact O.int rfl rfl (add64 (by omega)) | exact O.int rfl rfl (sub64 (by omega)) | exact O.int rfl rfl (add8 (by omega)) | exact O.pickT rfl (by first | with_reducible rfl | with_reducible assumption | decide) rfl | exact O.pickF rfl (by first | with_reducible rfl | with_reducible assumption | decide) rfl | exact O.lenL rfl rfl | exact O.lenSv rfl rfl | exact O.lenS rfl rfl | exact O.not rfl | exact O.svEq rfl rfl | exact O.svNe rfl rfl | exact O.str rfl rfl rfl | exact O.boolEq rfl rfl rfl | exact O.boolNe rfl rfl rfl | exact O.fieldE rfl rfl rfl rfl | exact O.fieldR rfl rfl rfl rfl | exact O.loadPA rfl rfl (by first | exact rfl | with_reducible assumption | assumption | exact at_upd) rfl rfl | exact O.extr rfl rfl | exact O.nilP rfl | exact O.nilF rfl | exact O.extrT rfl rfl | exact O.makeFunc rfl rfl rfl | exact O.fieldF rfl rfl rfl rfl | exact O.loadF rfl rfl rfl rfl | exact O.loadFA rfl rfl rfl | exact O.ptrEq rfl rfl rfl rfl | exact O.ptrNe rfl rfl rfl rfl | exact O.max rfl rfl | (apply O.addrX; exact rfl; infer_instance; exact rfl; exact rfl; omega; (first | with_reducible assumption | assumption); (first | exact rfl | assumption)) | (apply O.load1; exact rfl; (first | with_reducible assumption | assumption); exact rfl; exact rfl; exact rfl) | (apply O.loadE; exact rfl; exact rfl; exact rfl; (first | with_reducible assumption | assumption); exact rfl) | (apply O.loadEA; exact rfl; exact rfl; (first | with_reducible assumption | assumption); exact rfl) | (apply O.call; exact rfl; exact rfl; (first | with_reducible assumption | assumption)) | (apply O.addrRX; exact rfl; infer_instance; exact rfl; exact rfl; (first | with_reducible assumption | assumption); (first | exact rfl | assumption); omega; exact rfl) | (apply O.loadRX; exact rfl; (first | with_reducible assumption | assumption); (first | exact rfl | assumption); (first | with_reducible assumption | assumption); exact rfl; exact rfl; exact rfl) | (apply O.lenO; exact rfl; exact rfl; (first | with_reducible assumption | assumption)) | (apply O.build; exact rfl; exact rfl; exact rfl; exact rfl) | (apply O.callV; exact rfl; infer_instance; exact rfl; exact rfl; (first | with_reducible assumption | assumption)) | (apply O.lookA; exact rfl; infer_instance; infer_instance; exact rfl; exact rfl; exact rfl; (first | with_reducible assumption | assumption))); exact rfl; exact rfl) | (apply D.op1; (first | exact O.boxS rfl rfl rfl | exact O.alloc rfl rfl | exact O.makeMap | (apply O.buildX; exact rfl; infer_instance; exact rfl; exact rfl; decide; exact rfl; exact rfl; decide)); exact rfl; exact rfl) | (apply D.opN1; (first | (apply O.storeP; exact rfl; exact rfl; exact rfl; (first | exact rfl | with_reducible assumption | assumption | exact at_upd); exact rfl; exact rfl) | (apply O.storeP1; exact rfl; exact rfl; exact rfl; assumption; assumption; (first | exact rfl | with_reducible assumption | assumption | exact at_upd); exact rfl; exact rfl)); exact rfl) | (apply D.guardT1; exact rfl; exact rfl; (first | with_reducible rfl | with_reducible assumption | decide)) | (apply D.guardT0; exact rfl; exact rfl; (first | with_reducible rfl | with_reducible assumption | decide)) | (apply D.guardF1; exact rfl; exact rfl; (first | with_reducible rfl | with_reducible assumption | decide); exact rfl) | (apply D.guardF0; exact rfl; exact rfl; (first | with_reducible rfl | with_reducible assumption | decide); exact rfl) | (apply D.guardN; exact rfl; exact rfl; exact rfl) | (apply D.done; kernel_rfl) | (apply D.skip; kernel_rfl)))
  exact Hold.out k) : P := h ⟨k⟩
theorem AA {P Q : Prop} (k : Q) (h : Hold Q → P := by
  intro k
  (repeat (first | (apply R.op0; (first | exact O.move rfl | exact O.assign rfl | exact O.fieldP rfl rfl rfl rfl | exact O.loadP rfl rfl rfl (by first | exact rfl | with_reducible assumption | assumption | exact at_upd) rfl | exact O.cmp rfl rfl rfl | exact O.int rfl rfl (add64 (by omega)) | exact O.int rfl rfl (sub64 (by omega)) | exact O.int rfl rfl (add8 (by omega)) | exact O.pickT rfl (by first | with_reducible rfl | with_reducible assumption | decide) rfl | exact O.pickF rfl (by first | with_reducible rfl | with_reducible assumption | decide) rfl | exact O.lenL rfl rfl | exact O.lenSv rfl rfl | exact O.lenS rfl rfl | exact O.not rfl | exact O.svEq rfl rfl | exact O.svNe rfl rfl | exact O.str rfl rfl rfl | exact O.boolEq rfl rfl rfl | exact O.boolNe rfl rfl rfl | exact O.fieldE rfl rfl rfl rfl | exact O.fieldR rfl rfl rfl rfl | exact O.loadPA rfl rfl (by first | exact rfl | with_reducible assumption | assumption | exact at_upd) rfl rfl | exact O.extr rfl rfl | exact O.nilP rfl | exact O.nilF rfl | exact O.extrT rfl rfl | exact O.makeFunc rfl rfl rfl | exact O.fieldF rfl rfl rfl rfl | exact O.loadF rfl rfl rfl rfl | exact O.loadFA rfl rfl rfl | exact O.ptrEq rfl rfl rfl rfl | exact O.ptrNe rfl rfl rfl rfl | exact O.max rfl rfl | (apply O.addrX; exact rfl; infer_instance; exact rfl; exact rfl; omega; (first | with_reducible assumption | assumption); (first | exact rfl | assumption)) | (apply O.load1; exact rfl; (first | with_reducible assumption | assumption); exact rfl; exact rfl; exact rfl) | (apply O.loadE; exact rfl; exact rfl; exact rfl; (first | with_reducible assumption | assumption); exact rfl) | (apply O.loadEA; exact rfl; exact rfl; (first | with_reducible assumption | assumption); exact rfl) | (apply O.call; exact rfl; exact rfl; (first | with_reducible assumption | assumption)) | (apply O.addrRX; exact rfl; infer_instance; exact rfl; exact rfl; (first | with_reducible assumption | assumption); (first | exact rfl | assumption); omega; exact rfl) | (apply O.loadRX; exact rfl; (first | with_reducible assumption | assumption); (first | exact rfl | assumption); (first | with_reducible assumption | assumption); exact rfl; exact rfl; exact rfl) | (apply O.lenO; exact rfl; exact rfl; (first | with_reducible assumption | assumption)) | (apply O.build; exact rfl; exact rfl; exact rfl; exact rfl) | (apply O.callV; exact rfl; infer_instance; exact rfl; exact rfl; (first | with_reducible assumption | assumption)) | (apply O.lookA; exact rfl; infer_instance; infer_instance; exact rfl; exact rfl; exact rfl; (first | with_reducible assumption | assumption))); exact rfl) | (apply R.op1; (first | exact O.boxS rfl rfl rfl | exact O.alloc rfl rfl | exact O.makeMap | (apply O.buildX; exact rfl; infer_instance; exact rfl; exact rfl; decide; exact rfl; exact rfl; decide)); exact rfl) | (apply R.opN1; (first | (apply O.storeP; exact rfl; exact rfl; exact rfl; (first | exact rfl | with_reducible assumption | assumption | exact at_upd); exact rfl; exact rfl) | (apply O.storeP1; exact rfl; exact rfl; exact rfl; assumption; assumption; (first | exact rfl | with_reducible assumption | assumption | exact at_upd); exact rfl; exact rfl))) | (apply R.guardT1; exact rfl; exact rfl; (first | with_reducible rfl | with_reducible assumption | decide)) | (apply R.guardT0; exact rfl; exact rfl; (first | with_reducible rfl | with_reducible assumption | decide)) | (apply R.guardF1; exact rfl; exact rfl; (first | with_reducible rfl | with_reducible assumption | decide); exact rfl) | (apply R.guardF0; exact rfl; exact rfl; (first | with_reducible rfl | with_reducible assumption | decide); exact rfl) | (apply R.guardN; exact rfl; exact rfl; exact rfl) | apply R.done | apply W.seq | apply W.regionN | apply W.drawN | apply W.block | (apply W.condT; exact rfl; (first | with_reducible rfl | with_reducible assumption | decide)) | (apply W.condF; exact rfl; (first | with_reducible rfl | with_reducible assumption | decide)) | apply W.retAft | apply W.retBlk | apply W.retLop | apply W.exitAft | apply W.exitLop | apply W.exitBlk | (apply W.exitBlkNe; exact rfl) | apply W.skipAft | apply W.skipBlk | apply W.retCut | apply W.exitCut | apply R.skip | (apply D.op0; (first | exact O.move rfl | exact O.assign rfl | exact O.fieldP rfl rfl rfl rfl | exact O.loadP rfl rfl rfl (by first | exact rfl | with_reducible assumption | assumption | exact at_upd) rfl | exact O.cmp rfl rfl rfl | exact O.int rfl rfl (add64 (by omega)) | exact O.int rfl rfl (sub64 (by omega)) | exact O.int rfl rfl (add8 (by omega)) | exact O.pickT rfl (by first | with_reducible rfl | with_reducible assumption | decide) rfl | exact O.pickF rfl (by first | with_reducible rfl | with_reducible assumption | decide) rfl | exact O.lenL rfl rfl | exact O.lenSv rfl rfl | exact O.lenS rfl rfl | exact O.not rfl | exact O.svEq rfl rfl | exact O.svNe rfl rfl | exact O.str rfl rfl rfl | exact O.boolEq rfl rfl rfl | exact O.boolNe rfl rfl rfl | exact O.fieldE rfl rfl rfl rfl | exact O.fieldR rfl rfl rfl rfl | exact O.loadPA rfl rfl (by first | exact rfl | with_reducible assumption | assumption | exact at_upd) rfl rfl | exact O.extr rfl rfl | exact O.nilP rfl | exact O.nilF rfl | exact O.extrT rfl rfl | exact O.makeFunc rfl rfl rfl | exact O.fieldF rfl rfl rfl rfl | exact O.loadF rfl rfl rfl rfl | exact O.loadFA rfl rfl rfl | exact O.ptrEq rfl rfl rfl rfl | exact O.ptrNe rfl rfl rfl rfl | exact O.max rfl rfl | (apply O.addrX; exact rfl; infer_instance; exact rfl; exact rfl; omega; (first | with_reducible assumption | assumption); (first | exact rfl | assumption)) | (apply O.load1; exact rfl; (first | with_reducible assumption | assumption); exact rfl; exact rfl; exact rfl) | (apply O.loadE; exact rfl; exact rfl; exact rfl; (first | with_reducible assumption | assumption); exact rfl) | (apply O.loadEA; exact rfl; exact rfl; (first | with_reducible assumption | assumption); exact rfl) | (apply O.call; exact rfl; exact rfl; (first | with_reducible assumption | assumption)) | (apply O.addrRX; exact rfl; infer_instance; exact rfl; exact rfl; (first | with_reducible assumption | assumption); (first | exact rfl | assumption); omega; exact rfl) | (apply O.loadRX; exact rfl; (first | with_reducible assumption | assumption); (first | exact rfl | assumption); (first | with_reducible assumption | assumption); exact rfl; exact rfl; exact rfl) | (apply O.lenO; exact rfl; exact rfl; (first | with_reducible assumption | assumption)) | (apply O.build; exact rfl; exact rfl; exact rfl; exact rfl) | (apply O.callV; exact rfl; infer_instance; exact rfl; exact rfl; (first | with_reducible assumption | assumption)) | (apply O.lookA; exact rfl; infer_instance; infer_instance; exact rfl; exact rfl; exact rfl; (first | with_reducible assumption | assumption))); exact rfl; exact rfl) | (apply D.op1; (first | exact O.boxS rfl rfl rfl | exact O.alloc rfl rfl | exact O.makeMap | (apply O.buildX; exact rfl; infer_instance; exact rfl; exact rfl; decide; exact rfl; exact rfl; decide)); exact rfl; exact rfl) | (apply D.opN1; (first | (apply O.storeP; exact rfl; exact rfl; exact rfl; (first | exact rfl | with_reducible assumption | assumption | exact at_upd); exact rfl; exact rfl) | (apply O.storeP1; exact rfl; exact rfl; exact rfl; assumption; assumption; (first | exact rfl | with_reducible assumption | assumption | exact at_upd); exact rfl; exact rfl)); exact rfl) | (apply D.guardT1; exact rfl; exact rfl; (first | with_reducible rfl | with_reducible assumption | decide)) | (apply D.guardT0; exact rfl; exact rfl; (first | with_reducible rfl | with_reducible assumption | decide)) | (apply D.guardF1; exact rfl; exact rfl; (first | with_reducible rfl | with_reducible assumption | decide); exact rfl) | (apply D.guardF0; exact rfl; exact rfl; (first | with_reducible rfl | with_reducible assumption | decide); exact rfl) | (apply D.guardN; exact rfl; exact rfl; exact rfl) | (apply D.done; kernel_rfl) | (apply D.skip; kernel_rfl)))
  exact Hold.out k) : P := h ⟨k⟩
theorem AN {P Q : Prop} (k : Q) (h : Hold Q → P := by
  intro k
  (repeat (first | (apply R.op0; (first | exact O.move rfl | exact O.assign rfl | exact O.fieldP rfl rfl rfl rfl | exact O.loadP rfl rfl rfl (by first | exact rfl | with_reducible assumption | assumption | exact at_upd) rfl | exact O.cmp rfl rfl rfl | exact O.int rfl rfl (add64 (by omega)) | exact O.int rfl rfl (sub64 (by omega)) | exact O.int rfl rfl (add8 (by omega)) | exact O.pickT rfl (by first | with_reducible rfl | with_reducible assumption | decide) rfl | exact O.pickF rfl (by first | with_reducible rfl | with_reducible assumption | decide) rfl | exact O.lenL rfl rfl | exact O.lenSv rfl rfl | exact O.lenS rfl rfl | exact O.not rfl | exact O.svEq rfl rfl | exact O.svNe rfl rfl | exact O.str rfl rfl rfl | exact O.boolEq rfl rfl rfl | exact O.boolNe rfl rfl rfl | exact O.fieldE rfl rfl rfl rfl | exact O.fieldR rfl rfl rfl rfl | exact O.loadPA rfl rfl (by first | exact rfl | with_reducible assumption | assumption | exact at_upd) rfl rfl | exact O.extr rfl rfl | exact O.nilP rfl | exact O.nilF rfl | exact O.extrT rfl rfl | exact O.makeFunc rfl rfl rfl | exact O.fieldF rfl rfl rfl rfl | exact O.loadF rfl rfl rfl rfl | exact O.loadFA rfl rfl rfl | exact O.ptrEq rfl rfl rfl rfl | exact O.ptrNe rfl rfl rfl rfl | exact O.max rfl rfl | (apply O.addrX; exact rfl; infer_instance; exact rfl; exact rfl; omega; (first | with_reducible assumption | assumption); (first | exact rfl | assumption)) | (apply O.load1; exact rfl; (first | with_reducible assumption | assumption); exact rfl; exact rfl; exact rfl) | (apply O.loadE; exact rfl; exact rfl; exact rfl; (first | with_reducible assumption | assumption); exact rfl) | (apply O.loadEA; exact rfl; exact rfl; (first | with_reducible assumption | assumption); exact rfl) | (apply O.call; exact rfl; exact rfl; (first | with_reducible assumption | assumption)) | (apply O.addrRX; exact rfl; infer_instance; exact rfl; exact rfl; (first | with_reducible assumption | assumption); (first | exact rfl | assumption); omega; exact rfl) | (apply O.loadRX; exact rfl; (first | with_reducible assumption | assumption); (first | exact rfl | assumption); (first | with_reducible assumption | assumption); exact rfl; exact rfl; exact rfl) | (apply O.lenO; exact rfl; exact rfl; (first | with_reducible assumption | assumption)) | (apply O.build; exact rfl; exact rfl; exact rfl; exact rfl) | (apply O.callV; exact rfl; infer_instance; exact rfl; exact rfl; (first | with_reducible assumption | assumption)) | (apply O.lookA; exact rfl; infer_instance; infer_instance; exact rfl; exact rfl; exact rfl; (first | with_reducible assumption | assumption))); exact rfl) | (apply R.op1; (first | exact O.boxS rfl rfl rfl | exact O.alloc rfl rfl | exact O.makeMap | (apply O.buildX; exact rfl; infer_instance; exact rfl; exact rfl; decide; exact rfl; exact rfl; decide)); exact rfl) | (apply R.opN1; (first | (apply O.storeP; exact rfl; exact rfl; exact rfl; (first | exact rfl | with_reducible assumption | assumption | exact at_upd); exact rfl; exact rfl) | (apply O.storeP1; exact rfl; exact rfl; exact rfl; assumption; assumption; (first | exact rfl | with_reducible assumption | assumption | exact at_upd); exact rfl; exact rfl))) | (apply R.guardT1; exact rfl; exact rfl; (first | with_reducible rfl | with_reducible assumption | decide)) | (apply R.guardT0; exact rfl; exact rfl; (first | with_reducible rfl | with_reducible assumption | decide)) | (apply R.guardF1; exact rfl; exact rfl; (first | with_reducible rfl | with_reducible assumption | decide); exact rfl) | (apply R.guardF0; exact rfl; exact rfl; (first | with_reducible rfl | with_reducible assumption | decide); exact rfl) | (apply R.guardN; exact rfl; exact rfl; exact rfl) | apply R.done | apply W.seq | apply W.regionN | apply W.drawN | apply W.block | (apply W.condT; exact rfl; (first | with_reducible rfl | with_reducible assumption | decide)) | (apply W.condF; exact rfl; (first | with_reducible rfl | with_reducible assumption | decide)) | apply W.retAft | apply W.retBlk | apply W.retLop | apply W.exitAft | apply W.exitLop | apply W.exitBlk | (apply W.exitBlkNe; exact rfl) | apply W.skipAft | apply W.skipBlk | apply W.retCut | apply W.exitCut | apply R.skip | (apply D.op0; (first | exact O.move rfl | exact O.assign rfl | exact O.fieldP rfl rfl rfl rfl | exact O.loadP rfl rfl rfl (by first | exact rfl | with_reducible assumption | assumption | exact at_upd) rfl | exact O.cmp rfl rfl rfl | exact O.int rfl rfl (add64 (by omega)) | exact O.int rfl rfl (sub64 (by omega)) | exact O.int rfl rfl (add8 (by omega)) | exact O.pickT rfl (by first | with_reducible rfl | with_reducible assumption | decide) rfl | exact O.pickF rfl (by first | with_reducible rfl | with_reducible assumption | decide) rfl | exact O.lenL rfl rfl | exact O.lenSv rfl rfl | exact O.lenS rfl rfl | exact O.not rfl | exact O.svEq rfl rfl | exact O.svNe rfl rfl | exact O.str rfl rfl rfl | exact O.boolEq rfl rfl rfl | exact O.boolNe rfl rfl rfl | exact O.fieldE rfl rfl rfl rfl | exact O.fieldR rfl rfl rfl rfl | exact O.loadPA rfl rfl (by first | exact rfl | with_reducible assumption | assumption | exact at_upd) rfl rfl | exact O.extr rfl rfl | exact O.nilP rfl | exact O.nilF rfl | exact O.extrT rfl rfl | exact O.makeFunc rfl rfl rfl | exact O.fieldF rfl rfl rfl rfl | exact O.loadF rfl rfl rfl rfl | exact O.loadFA rfl rfl rfl | exact O.ptrEq rfl rfl rfl rfl | exact O.ptrNe rfl rfl rfl rfl | exact O.max rfl rfl | (apply O.addrX; exact rfl; infer_instance; exact rfl; exact rfl; omega; (first | with_reducible assumption | assumption); (first | exact rfl | assumption)) | (apply O.load1; exact rfl; (first | with_reducible assumption | assumption); exact rfl; exact rfl; exact rfl) | (apply O.loadE; exact rfl; exact rfl; exact rfl; (first | with_reducible assumption | assumption); exact rfl) | (apply O.loadEA; exact rfl; exact rfl; (first | with_reducible assumption | assumption); exact rfl) | (apply O.call; exact rfl; exact rfl; (first | with_reducible assumption | assumption)) | (apply O.addrRX; exact rfl; infer_instance; exact rfl; exact rfl; (first | with_reducible assumption | assumption); (first | exact rfl | assumption); omega; exact rfl) | (apply O.loadRX; exact rfl; (first | with_reducible assumption | assumption); (first | exact rfl | assumption); (first | with_reducible assumption | assumption); exact rfl; exact rfl; exact rfl) | (apply O.lenO; exact rfl; exact rfl; (first | with_reducible assumption | assumption)) | (apply O.build; exact rfl; exact rfl; exact rfl; exact rfl) | (apply O.callV; exact rfl; infer_instance; exact rfl; exact rfl; (first | with_reducible assumption | assumption)) | (apply O.lookA; exact rfl; infer_instance; infer_instance; exact rfl; exact rfl; exact rfl; (first | with_reducible assumption | assumption))); exact rfl; exact rfl) | (apply D.op1; (first | exact O.boxS rfl rfl rfl | exact O.alloc rfl rfl | exact O.makeMap | (apply O.buildX; exact rfl; infer_instance; exact rfl; exact rfl; decide; exact rfl; exact rfl; decide)); exact rfl; exact rfl) | (apply D.opN1; (first | (apply O.storeP; exact rfl; exact rfl; exact rfl; (first | exact rfl | with_reducible assumption | assumption | exact at_upd); exact rfl; exact rfl) | (apply O.storeP1; exact rfl; exact rfl; exact rfl; assumption; assumption; (first | exact rfl | with_reducible assumption | assumption | exact at_upd); exact rfl; exact rfl)); exact rfl) | (apply D.guardT1; exact rfl; exact rfl; (first | with_reducible rfl | with_reducible assumption | decide)) | (apply D.guardT0; exact rfl; exact rfl; (first | with_reducible rfl | with_reducible assumption | decide)) | (apply D.guardF1; exact rfl; exact rfl; (first | with_reducible rfl | with_reducible assumption | decide); exact rfl) | (apply D.guardF0; exact rfl; exact rfl; (first | with_reducible rfl | with_reducible assumption | decide); exact rfl) | (apply D.guardN; exact rfl; exact rfl; exact rfl) | refine D.auto ?_))
  exact Hold.out k) : P := h ⟨k⟩
theorem AX {P Q : Prop} (k : Q) (h : Hold Q → P := by
  intro k
  (repeat (first | (apply DX.op0; (first | exact O.move rfl | exact O.assign rfl | exact O.fieldP rfl rfl rfl rfl | exact O.loadP rfl rfl rfl (by first | exact rfl | with_reducible assumption | assumption | exact at_upd) rfl | exact O.cmp rfl rfl rfl | exact O.int rfl rfl (add64 (by omega)) | exact O.int rfl rfl (sub64 (by omega)) | exact O.int rfl rfl (add8 (by omega)) | exact O.pickT rfl (by first | with_reducible rfl | with_reducible assumption | decide) rfl | exact O.pickF rfl (by first | with_reducible rfl | with_reducible assumption | decide) rfl | exact O.lenL rfl rfl | exact O.lenSv rfl rfl | exact O.lenS rfl rfl | exact O.not rfl | exact O.svEq rfl rfl | exact O.svNe rfl rfl | exact O.str rfl rfl rfl | exact O.boolEq rfl rfl rfl | exact O.boolNe rfl rfl rfl | exact O.fieldE rfl rfl rfl rfl | exact O.fieldR rfl rfl rfl rfl | exact O.loadPA rfl rfl (by first | exact rfl | with_reducible assumption | assumption | exact at_upd) rfl rfl | exact O.extr rfl rfl | exact O.nilP rfl | exact O.nilF rfl | exact O.extrT rfl rfl | exact O.makeFunc rfl rfl rfl | exact O.fieldF rfl rfl rfl rfl | exact O.loadF rfl rfl rfl rfl | exact O.loadFA rfl rfl rfl | exact O.ptrEq rfl rfl rfl rfl | exact O.ptrNe rfl rfl rfl rfl | exact O.max rfl rfl | (apply O.addrX; exact rfl; infer_instance; exact rfl; exact rfl; omega; (first | with_reducible assumption | assumption); (first | exact rfl | assumption)) | (apply O.load1; exact rfl; (first | with_reducible assumption | assumption); exact rfl; exact rfl; exact rfl) | (apply O.loadE; exact rfl; exact rfl; exact rfl; (first | with_reducible assumption | assumption); exact rfl) | (apply O.loadEA; exact rfl; exact rfl; (first | with_reducible assumption | assumption); exact rfl) | (apply O.call; exact rfl; exact rfl; (first | with_reducible assumption | assumption)) | (apply O.addrRX; exact rfl; infer_instance; exact rfl; exact rfl; (first | with_reducible assumption | assumption); (first | exact rfl | assumption); omega; exact rfl) | (apply O.loadRX; exact rfl; (first | with_reducible assumption | assumption); (first | exact rfl | assumption); (first | with_reducible assumption | assumption); exact rfl; exact rfl; exact rfl) | (apply O.lenO; exact rfl; exact rfl; (first | with_reducible assumption | assumption)) | (apply O.build; exact rfl; exact rfl; exact rfl; exact rfl) | (apply O.callV; exact rfl; infer_instance; exact rfl; exact rfl; (first | with_reducible assumption | assumption)) | (apply O.lookA; exact rfl; infer_instance; infer_instance; exact rfl; exact rfl; exact rfl; (first | with_reducible assumption | assumption))); exact rfl; exact rfl)))
  exact Hold.out k) : P := h ⟨k⟩
theorem A1 {P Q : Prop} (k : Q) (h : Hold Q → P := by
  intro k
  (try (apply W.seqR; (first | apply W.regionN | apply W.drawN)))
  (repeat (first | (apply R.op0; (first | exact O.move rfl | exact O.assign rfl | exact O.fieldP rfl rfl rfl rfl | exact O.loadP rfl rfl rfl (by first | exact rfl | with_reducible assumption | assumption | exact at_upd) rfl | exact O.cmp rfl rfl rfl | exact O.int rfl rfl (add64 (by omega)) | exact O.int rfl rfl (sub64 (by omega)) | exact O.int rfl rfl (add8 (by omega)) | exact O.pickT rfl (by first | with_reducible rfl | with_reducible assumption | decide) rfl | exact O.pickF rfl (by first | with_reducible rfl | with_reducible assumption | decide) rfl | exact O.lenL rfl rfl | exact O.lenSv rfl rfl | exact O.lenS rfl rfl | exact O.not rfl | exact O.svEq rfl rfl | exact O.svNe rfl rfl | exact O.str rfl rfl rfl | exact O.boolEq rfl rfl rfl | exact O.boolNe rfl rfl rfl | exact O.fieldE rfl rfl rfl rfl | exact O.fieldR rfl rfl rfl rfl | exact O.loadPA rfl rfl (by first | exact rfl | with_reducible assumption | assumption | exact at_upd) rfl rfl | exact O.extr rfl rfl | exact O.nilP rfl | exact O.nilF rfl | exact O.extrT rfl rfl | exact O.makeFunc rfl rfl rfl | exact O.fieldF rfl rfl rfl rfl | exact O.loadF rfl rfl rfl rfl | exact O.loadFA rfl rfl rfl | exact O.ptrEq rfl rfl rfl rfl | exact O.ptrNe rfl rfl rfl rfl | exact O.max rfl rfl | (apply O.addrX; exact rfl; infer_instance; exact rfl; exact rfl; omega; (first | with_reducible assumption | assumption); (first | exact rfl | assumption)) | (apply O.load1; exact rfl; (first | with_reducible assumption | assumption); exact rfl; exact rfl; exact rfl) | (apply O.loadE; exact rfl; exact rfl; exact rfl; (first | with_reducible assumption | assumption); exact rfl) | (apply O.loadEA; exact rfl; exact rfl; (first | with_reducible assumption | assumption); exact rfl) | (apply O.call; exact rfl; exact rfl; (first | with_reducible assumption | assumption)) | (apply O.addrRX; exact rfl; infer_instance; exact rfl; exact rfl; (first | with_reducible assumption | assumption); (first | exact rfl | assumption); omega; exact rfl) | (apply O.loadRX; exact rfl; (first | with_reducible assumption | assumption); (first | exact rfl | assumption); (first | with_reducible assumption | assumption); exact rfl; exact rfl; exact rfl) | (apply O.lenO; exact rfl; exact rfl; (first | with_reducible assumption | assumption)) | (apply O.build; exact rfl; exact rfl; exact rfl; exact rfl) | (apply O.callV; exact rfl; infer_instance; exact rfl; exact rfl; (first | with_reducible assumption | assumption)) | (apply O.lookA; exact rfl; infer_instance; infer_instance; exact rfl; exact rfl; exact rfl; (first | with_reducible assumption | assumption))); exact rfl) | (apply R.op1; (first | exact O.boxS rfl rfl rfl | exact O.alloc rfl rfl | exact O.makeMap | (apply O.buildX; exact rfl; infer_instance; exact rfl; exact rfl; decide; exact rfl; exact rfl; decide)); exact rfl) | (apply R.opN1; (first | (apply O.storeP; exact rfl; exact rfl; exact rfl; (first | exact rfl | with_reducible assumption | assumption | exact at_upd); exact rfl; exact rfl) | (apply O.storeP1; exact rfl; exact rfl; exact rfl; assumption; assumption; (first | exact rfl | with_reducible assumption | assumption | exact at_upd); exact rfl; exact rfl))) | (apply R.guardT1; exact rfl; exact rfl; (first | with_reducible rfl | with_reducible assumption | decide)) | (apply R.guardT0; exact rfl; exact rfl; (first | with_reducible rfl | with_reducible assumption | decide)) | (apply R.guardF1; exact rfl; exact rfl; (first | with_reducible rfl | with_reducible assumption | decide); exact rfl) | (apply R.guardF0; exact rfl; exact rfl; (first | with_reducible rfl | with_reducible assumption | decide); exact rfl) | (apply R.guardN; exact rfl; exact rfl; exact rfl) | (apply D.op0; (first | exact O.move rfl | exact O.assign rfl | exact O.fieldP rfl rfl rfl rfl | exact O.loadP rfl rfl rfl (by first | exact rfl | with_reducible assumption | assumption | exact at_upd) rfl | exact O.cmp rfl rfl rfl | exact O.int rfl rfl (add64 (by omega)) | exact O.int rfl rfl (sub64 (by omega)) | exact O.int rfl rfl (add8 (by omega)) | exact O.pickT rfl (by first | with_reducible rfl | with_reducible assumption | decide) rfl | exact O.pickF rfl (by first | with_reducible rfl | with_reducible assumption | decide) rfl | exact O.lenL rfl rfl | exact O.lenSv rfl rfl | exact O.lenS rfl rfl | exact O.not rfl | exact O.svEq rfl rfl | exact O.svNe rfl rfl | exact O.str rfl rfl rfl | exact O.boolEq rfl rfl rfl | exact O.boolNe rfl rfl rfl | exact O.fieldE rfl rfl rfl rfl | exact O.fieldR rfl rfl rfl rfl | exact O.loadPA rfl rfl (by first | exact rfl | with_reducible assumption | assumption | exact at_upd) rfl rfl | exact O.extr rfl rfl | exact O.nilP rfl | exact O.nilF rfl | exact O.extrT rfl rfl | exact O.makeFunc rfl rfl rfl | exact O.fieldF rfl rfl rfl rfl | exact O.loadF rfl rfl rfl rfl | exact O.loadFA rfl rfl rfl | exact O.ptrEq rfl rfl rfl rfl | exact O.ptrNe rfl rfl rfl rfl | exact O.max rfl rfl | (apply O.addrX; exact rfl; infer_instance; exact rfl; exact rfl; omega; (first | with_reducible assumption | assumption); (first | exact rfl | assumption)) | (apply O.load1; exact rfl; (first | with_reducible assumption | assumption); exact rfl; exact rfl; exact rfl) | (apply O.loadE; exact rfl; exact rfl; exact rfl; (first | with_reducible assumption | assumption); exact rfl) | (apply O.loadEA; exact rfl; exact rfl; (first | with_reducible assumption | assumption); exact rfl) | (apply O.call; exact rfl; exact rfl; (first | with_reducible assumption | assumption)) | (apply O.addrRX; exact rfl; infer_instance; exact rfl; exact rfl; (first | with_reducible assumption | assumption); (first | exact rfl | assumption); omega; exact rfl) | (apply O.loadRX; exact rfl; (first | with_reducible assumption | assumption); (first | exact rfl | assumption); (first | with_reducible assumption | assumption); exact rfl; exact rfl; exact rfl) | (apply O.lenO; exact rfl; exact rfl; (first | with_reducible assumption | assumption)) | (apply O.build; exact rfl; exact rfl; exact rfl; exact rfl) | (apply O.callV; exact rfl; infer_instance; exact rfl; exact rfl; (first | with_reducible assumption | assumption)) | (apply O.lookA; exact rfl; infer_instance; infer_instance; exact rfl; exact rfl; exact rfl; (first | with_reducible assumption | assumption))); exact rfl; exact rfl) | (apply D.op1; (first | exact O.boxS rfl rfl rfl | exact O.alloc rfl rfl | exact O.makeMap | (apply O.buildX; exact rfl; infer_instance; exact rfl; exact rfl; decide; exact rfl; exact rfl; decide)); exact rfl; exact rfl) | (apply D.opN1; (first | (apply O.storeP; exact rfl; exact rfl; exact rfl; (first | exact rfl | with_reducible assumption | assumption | exact at_upd); exact rfl; exact rfl) | (apply O.storeP1; exact rfl; exact rfl; exact rfl; assumption; assumption; (first | exact rfl | with_reducible assumption | assumption | exact at_upd); exact rfl; exact rfl)); exact rfl) | (apply D.guardT1; exact rfl; exact rfl; (first | with_reducible rfl | with_reducible assumption | decide)) | (apply D.guardT0; exact rfl; exact rfl; (first | with_reducible rfl | with_reducible assumption | decide)) | (apply D.guardF1; exact rfl; exact rfl; (first | with_reducible rfl | with_reducible assumption | decide); exact rfl) | (apply D.guardF0; exact rfl; exact rfl; (first | with_reducible rfl | with_reducible assumption | decide); exact rfl) | (apply D.guardN; exact rfl; exact rfl; exact rfl)))
  (first | apply R.done | refine D.auto ?_)
  exact Hold.out k) : P := h ⟨k⟩
theorem AQ {P Q : Prop} (k : Q) (h : Hold Q → P := by
  intro k
  (repeat (first | (apply R.op0; (first | exact O.move rfl | exact O.assign rfl | exact O.fieldP rfl rfl rfl rfl | exact O.loadP rfl rfl rfl (by first | exact rfl | with_reducible assumption | assumption | exact at_upd) rfl | exact O.cmp rfl rfl rfl | exact O.int rfl rfl (add64 (by omega)) | exact O.int rfl rfl (sub64 (by omega)) | exact O.int rfl rfl (add8 (by omega)) | exact O.pickT rfl (by first | with_reducible rfl | with_reducible assumption | decide) rfl | exact O.pickF rfl (by first | with_reducible rfl | with_reducible assumption | decide) rfl | exact O.lenL rfl rfl | exact O.lenSv rfl rfl | exact O.lenS rfl rfl | exact O.not rfl | exact O.svEq rfl rfl | exact O.svNe rfl rfl | exact O.str rfl rfl rfl | exact O.boolEq rfl rfl rfl | exact O.boolNe rfl rfl rfl | exact O.fieldE rfl rfl rfl rfl | exact O.fieldR rfl rfl rfl rfl | exact O.loadPA rfl rfl (by first | exact rfl | with_reducible assumption | assumption | exact at_upd) rfl rfl | exact O.extr rfl rfl | exact O.nilP rfl | exact O.nilF rfl | exact O.extrT rfl rfl | exact O.makeFunc rfl rfl rfl | exact O.fieldF rfl rfl rfl rfl | exact O.loadF rfl rfl rfl rfl | exact O.loadFA rfl rfl rfl | exact O.ptrEq rfl rfl rfl rfl | exact O.ptrNe rfl rfl rfl rfl | exact O.max rfl rfl | (apply O.addrX; exact rfl; infer_instance; exact rfl; exact rfl; omega; (first | with_reducible assumption | assumption); (first | exact rfl | assumption)) | (apply O.load1; exact rfl; (first | with_reducible assumption | assumption); exact rfl; exact rfl; exact rfl) | (apply O.loadE; exact rfl; exact rfl; exact rfl; (first | with_reducible assumption | assumption); exact rfl) | (apply O.loadEA; exact rfl; exact rfl; (first | with_reducible assumption | assumption); exact rfl) | (apply O.call; exact rfl; exact rfl; (first | with_reducible assumption | assumption)) | (apply O.addrRX; exact rfl; infer_instance; exact rfl; exact rfl; (first | with_reducible assumption | assumption); (first | exact rfl | assumption); omega; exact rfl) | (apply O.loadRX; exact rfl; (first | with_reducible assumption | assumption); (first | exact rfl | assumption); (first | with_reducible assumption | assumption); exact rfl; exact rfl; exact rfl) | (apply O.lenO; exact rfl; exact rfl; (first | with_reducible assumption | assumption)) | (apply O.build; exact rfl; exact rfl; exact rfl; exact rfl) | (apply O.callV; exact rfl; infer_instance; exact rfl; exact rfl; (first | with_reducible assumption | assumption)) | (apply O.lookA; exact rfl; infer_instance; infer_instance; exact rfl; exact rfl; exact rfl; (first | with_reducible assumption | assumption))); exact rfl) | (apply R.op1; (first | exact O.boxS rfl rfl rfl | exact O.alloc rfl rfl | exact O.makeMap | (apply O.buildX; exact rfl; infer_instance; exact rfl; exact rfl; decide; exact rfl; exact rfl; decide)); exact rfl) | (apply R.opN1; (first | (apply O.storeP; exact rfl; exact rfl; exact rfl; (first | exact rfl | with_reducible assumption | assumption | exact at_upd); exact rfl; exact rfl) | (apply O.storeP1; exact rfl; exact rfl; exact rfl; assumption; assumption; (first | exact rfl | with_reducible assumption | assumption | exact at_upd); exact rfl; exact rfl))) | (apply R.guardT1; exact rfl; exact rfl; (first | with_reducible rfl | with_reducible assumption | decide)) | (apply R.guardT0; exact rfl; exact rfl; (first | with_reducible rfl | with_reducible assumption | decide)) | (apply R.guardF1; exact rfl; exact rfl; (first | with_reducible rfl | with_reducible assumption | decide); exact rfl) | (apply R.guardF0; exact rfl; exact rfl; (first | with_reducible rfl | with_reducible assumption | decide); exact rfl) | (apply R.guardN; exact rfl; exact rfl; exact rfl)))
  exact Hold.out k) : P := h ⟨k⟩
theorem AD {P Q : Prop} (k : Q) (h : Hold Q → P := by
  intro k
  (repeat (first | (apply D.op0; (first | exact O.move rfl | exact O.assign rfl | exact O.fieldP rfl rfl rfl rfl | exact O.loadP rfl rfl rfl (by first | exact rfl | with_reducible assumption | assumption | exact at_upd) rfl | exact O.cmp rfl rfl rfl | exact O.int rfl rfl (add64 (by omega)) | exact O.int rfl rfl (sub64 (by omega)) | exact O.int rfl rfl (add8 (by omega)) | exact O.pickT rfl (by first | with_reducible rfl | with_reducible assumption | decide) rfl | exact O.pickF rfl (by first | with_reducible rfl | with_reducible assumption | decide) rfl | exact O.lenL rfl rfl | exact O.lenSv rfl rfl | exact O.lenS rfl rfl | exact O.not rfl | exact O.svEq rfl rfl | exact O.svNe rfl rfl | exact O.str rfl rfl rfl | exact O.boolEq rfl rfl rfl | exact O.boolNe rfl rfl rfl | exact O.fieldE rfl rfl rfl rfl | exact O.fieldR rfl rfl rfl rfl | exact O.loadPA rfl rfl (by first | exact rfl | with_reducible assumption | assumption | exact at_upd) rfl rfl | exact O.extr rfl rfl | exact O.nilP rfl | exact O.nilF rfl | exact O.extrT rfl rfl | exact O.makeFunc rfl rfl rfl | exact O.fieldF rfl rfl rfl rfl | exact O.loadF rfl rfl rfl rfl | exact O.loadFA rfl rfl rfl | exact O.ptrEq rfl rfl rfl rfl | exact O.ptrNe rfl rfl rfl rfl | exact O.max rfl rfl | (apply O.addrX; exact rfl; infer_instance; exact rfl; exact rfl; omega; (first | with_reducible assumption | assumption); (first | exact rfl | assumption)) | (apply O.load1; exact rfl; (first | with_reducible assumption | assumption); exact rfl; exact rfl; exact rfl) | (apply O.loadE; exact rfl; exact rfl; exact rfl; (first | with_reducible assumption | assumption); exact rfl) | (apply O.loadEA; exact rfl; exact rfl; (first | with_reducible assumption | assumption); exact rfl) | (apply O.call; exact rfl; exact rfl; (first | with_reducible assumption | assumption)) | (apply O.addrRX; exact rfl; infer_instance; exact rfl; exact rfl; (first | with_reducible assumption | assumption); (first | exact rfl | assumption); omega; exact rfl) | (apply O.loadRX; exact rfl; (first | with_reducible assumption | assumption); (first | exact rfl | assumption); (first | with_reducible assumption | assumption); exact rfl; exact rfl; exact rfl) | (apply O.lenO; exact rfl; exact rfl; (first | with_reducible assumption | assumption)) | (apply O.build; exact rfl; exact rfl; exact rfl; exact rfl) | (apply O.callV; exact rfl; infer_instance; exact rfl; exact rfl; (first | with_reducible assumption | assumption)) | (apply O.lookA; exact rfl; infer_instance; infer_instance; exact rfl; exact rfl; exact rfl; (first | with_reducible assumption | assumption))); exact rfl; exact rfl) | (apply D.op1; (first | exact O.boxS rfl rfl rfl | exact O.alloc rfl rfl | exact O.makeMap | (apply O.buildX; exact rfl; infer_instance; exact rfl; exact rfl; decide; exact rfl; exact rfl; decide)); exact rfl; exact rfl) | (apply D.opN1; (first | (apply O.storeP; exact rfl; exact rfl; exact rfl; (first | exact rfl | with_reducible assumption | assumption | exact at_upd); exact rfl; exact rfl) | (apply O.storeP1; exact rfl; exact rfl; exact rfl; assumption; assumption; (first | exact rfl | with_reducible assumption | assumption | exact at_upd); exact rfl; exact rfl)); exact rfl) | (apply D.guardT1; exact rfl; exact rfl; (first | with_reducible rfl | with_reducible assumption | decide)) | (apply D.guardT0; exact rfl; exact rfl; (first | with_reducible rfl | with_reducible assumption | decide)) | (apply D.guardF1; exact rfl; exact rfl; (first | with_reducible rfl | with_reducible assumption | decide); exact rfl) | (apply D.guardF0; exact rfl; exact rfl; (first | with_reducible rfl | with_reducible assumption | decide); exact rfl) | (apply D.guardN; exact rfl; exact rfl; exact rfl)))
  exact Hold.out k) : P := h ⟨k⟩
end Go.Abs

/- Programs that are looked at: terms. -/
open Go Go.Abs
namespace Go.Abs
set_option maxRecDepth 100000
set_option maxHeartbeats 4000000
instance fnis86 : FnIs CC 103 := ⟨rfl, fun _ => rfl⟩
def ty71 : TyI := { d := TyD.ptr, sz := 1, bytes := 8, zero := AV.imm IV.nilp }
instance tyis71 : TyIs CC 97 ty71 := ⟨by kernel_rfl⟩
def ty84 : TyI := { d := TyD.st [(0, 2), (2, 1), (3, 1), (4, 1)], sz := 5, bytes := 40, zero := AV.imm (IV.agg [IV.nilmap, IV.nilmap, IV.nilmap, IV.int IntKind.i64 (0), IV.int IntKind.i64 (0)]) }
instance tyis84 : TyIs CC 124 ty84 := ⟨by kernel_rfl⟩
def ty81 : TyI := { d := TyD.st [(0, 1), (1, 1)], sz := 2, bytes := 16, zero := AV.imm (IV.agg [IV.nilmap, IV.nilmap]) }
instance tyis81 : TyIs CC 121 ty81 := ⟨by kernel_rfl⟩
def ty82 : TyI := { d := TyD.mp 88 224, sz := 1, bytes := 8, zero := AV.imm IV.nilmap }
instance tyis82 : TyIs CC 122 ty82 := ⟨by kernel_rfl⟩
def ty79 : TyI := { d := TyD.mp 9 3, sz := 1, bytes := 8, zero := AV.imm IV.nilmap }
instance tyis79 : TyIs CC 119 ty79 := ⟨by kernel_rfl⟩
def ty137 : TyI := { d := TyD.st [(0, 1), (1, 1), (2, 1), (3, 1), (4, 1), (5, 1)], sz := 6, bytes := 40, zero := AV.imm (IV.agg [IV.int IntKind.i64 (0), IV.int IntKind.i64 (0), IV.bool false, IV.bool false, IV.int IntKind.i64 (0), IV.int IntKind.i64 (0)]) }
instance tyis137 : TyIs CC 224 ty137 := ⟨by kernel_rfl⟩
def unf : IV := .iface 175 (.agg [])
theorem ret86 : Ret CC 103 [.bool true] (.tup []) := Ret.reckon (n := 10) (by kernel_rfl)
theorem pan86 : RetPan CC 103 [.bool false] unf := RetPan.reckon (n := 10) (by kernel_rfl) rfl
def SPost (o : Nat) (a b c d : AV) (n res : Int) (G : Nat → Obj) (nx : Nat) : CR → Prop
  | .ret v G' nx' => v = .imm (.tup []) ∧ 0 ≤ res ∧ G' o = .box [a, b, c, d, .imm (.int .i64 (n + res))] false ∧ nx ≤ nx' ∧ ∀ q, q < nx → q ≠ o → G' q = G q
  | .pan u G' nx' => u = unf ∧ res < 0 ∧ nx ≤ nx' ∧ ∀ q, q < nx → q ≠ o → G' q = G q
def oneR (depth left : Int) : Int := if depth > 10 ∨ left < 1 then -1 else 1
theorem retM {b : Bool} (h : b = true) : Ret CC 103 [.bool b] (.tup []) := h ▸ ret86
theorem panM {b : Bool} (h : b = false) : RetPan CC 103 [.bool b] unf := h ▸ pan86
theorem cal103 {o nx : Nat} {G : Nat → Obj} {a b c d : AV} {n depth : Int} (hG : G o = .box [a, b, c, d, .imm (.int .i64 n)] false) (_ho : o < nx) (hn : 0 ≤ n ∧ n ≤ 1000) :
    CalP CC 162 [.ptr o 0, .imm (.int .i64 depth)] G nx (SPost o a b c d n (oneR depth (60 - n)) G nx) := by
  refine CalP.of (fn := Go.Proofs.Tryz.f162) (by kernel_rfl) rfl rfl ?_
  rcases Bool.eq_false_or_eq_true (decide (n + 1 ≤ 60)) with h1 | h1
  · rcases Bool.eq_false_or_eq_true (decide (depth ≤ 10)) with h2 | h2
    · have h1' := of_decide_eq_true h1
      have h2' := of_decide_eq_true h2
      have hr := retM h2
      refine AA ?_
      have e : oneR depth (60 - n) = 1 := by unfold oneR; rw [if_neg (by omega)]
      rw [e]
      exact W.skipFinP rfl ⟨rfl, by decide, at_upd, by omega, fun q _ _ => at_upd⟩
    · have h2' := of_decide_eq_false h2
      have e : oneR depth (60 - n) = -1 := by unfold oneR; rw [if_pos (by omega)]
      rw [e]
      refine AA ?_
      exact R.callPan rfl rfl (panM h2) (panTo ⟨rfl, by decide, by omega, fun q _ _ => at_upd⟩)
  · have h1' := of_decide_eq_false h1
    have e : oneR depth (60 - n) = -1 := by unfold oneR; rw [if_pos (by omega)]
    rw [e]
    refine AA ?_
    exact R.callPan rfl rfl pan86 (panTo ⟨rfl, by decide, by omega, fun q _ _ => at_upd⟩)
theorem cal104 {o : Nat} {a b cc d : AV} {c : Trm} (hf : c.Fits) : ∀ {nx : Nat} {G : Nat → Obj} {n depth : Int} {other : Bool}, G o = .box [a, b, cc, d, .imm (.int .i64 n)] false → o < nx → (0 ≤ n ∧ n ≤ 60) → (-1000 ≤ depth ∧ depth ≤ 1000) →
    CalP CC 163 [.ptr o 0, .imm c.iv, .imm (.bool other), .imm (.int .i64 depth)] G nx (SPost o a b cc d n (calcR c other depth (60 - n)) G nx) := by
  induction hf with
  | mk op n' kids hlen hkf ih =>
  intro nx G n depth other hG ho hn hd
  have hlen' : kids.length ≤ 9223372036854775807 := hlen
  refine CalP.of (fn := Go.Proofs.Tryz.f163) (by kernel_rfl) rfl rfl ?_
  refine AA ?_
  refine R.callBP rfl rfl rfl rfl rfl ((cal103 (o := o) (n := n) at_upd (by omega) (by omega)).mono fun r hr => ?_)
  cases r with
  | pan u G' nx' =>
    obtain ⟨rfl, h1, h2, h3⟩ := hr
    have e : calcR (.mk op n' kids) other depth (60 - n) = -1 := by
      rw [calcR, if_pos]
      unfold oneR at h1
      split at h1
      · assumption
      · omega
    rw [e]
    exact panTo ⟨rfl, by decide, by omega, fun q h4 h5 => (h3 q (by omega) h5).trans at_upd⟩
  | ret v G' nx' =>
    obtain ⟨rfl, h1, h2, h3, h4⟩ := hr
    dsimp only
    have hor : oneR depth (60 - n) = 1 := by unfold oneR at h1 ⊢; split <;> simp_all
    have hdl : ¬ (depth > 10 ∨ (60 - n) < 1) := by unfold oneR at h1; split at h1 <;> omega
    rw [hor] at h2
    have hmk := calcR_mk (op := op) (n := n') (kids := kids) (other := other) hdl
    have hB : G' (nx + 0) = .box [.imm (.int .i64 op), .imm (.int .i64 n'), .imm (.lst (Trm.ivs kids))] false := (h4 _ (by omega) (by omega)).trans at_upd
    have hfr : ∀ q, q < nx → q ≠ o → G' q = G q := fun q h5 h6 => (h4 q (by omega) h6).trans at_upd
    have hnx : nx + 1 ≤ nx' := by omega
    clear h3 h4 h1 hor
    have bad : calcR (.mk op n' kids) other depth (60 - n) = -1 → ∀ {G2 : Nat → Obj} {nx2 : Nat} {l : Env}, nx + 1 ≤ nx2 → (∀ q, q < nx → q ≠ o → G2 q = G q) →
        ∀ t, Agree t l → finP CC Go.Proofs.Tryz.f163.results.toList (SPost o a b cc d n (calcR (.mk op n' kids) other depth (60 - n)) G nx) (.pan unf ⟨t, G2, nx2, [], .no⟩) := by
      intro e G2 nx2 l h1 h2
      rw [e]
      exact panTo ⟨rfl, by decide, by omega, h2⟩
    refine AB ?_
    refine W.cut (X := Nat) (fun k => [(0, .ptr o 0), (2, .imm (.bool other)), (3, .imm (.int .i64 depth)), (5, .ptr (nx + 0) 0), (8, .imm (.int .i64 k))])
      (fun k nx2 G2 => G2 = G' ∧ nx' ≤ nx2 ∧ kidsOf op n' other = some k) ?_ ?_
    · refine AB ?_
      have hnone : kidsOf op n' other = none → calcR (.mk op n' kids) other depth (60 - n) = -1 := fun h => by rw [hmk, h]
      have hops : op = 1 ∨ op = 5 ∨ (op = 2 ∨ op = 3 ∨ op = 4) ∨ (op = 6 ∨ op = 7 ∨ op = 8 ∨ op = 9 ∨ op = 10) ∨ (op ≠ 1 ∧ op ≠ 2 ∧ op ≠ 3 ∧ op ≠ 4 ∧ op ≠ 5 ∧ op ≠ 6 ∧ op ≠ 7 ∧ op ≠ 8 ∧ op ≠ 9 ∧ op ≠ 10) := by omega
      rcases hops with rfl | rfl | hop | hop | ⟨n1, n2, n3, n4, n5, n6, n7, n8, n9, n10⟩
      · rcases Bool.eq_false_or_eq_true (decide (n' ≥ -1000000000)) with h1 | h1
        · rcases Bool.eq_false_or_eq_true (decide (n' ≤ 1000000000)) with h2 | h2
          · have hr := retM h2
            refine AA ?_
            exact W.skipCut 0 .auto ⟨rfl, by omega, by unfold kidsOf inR; rw [h1, h2]; rfl⟩
          · refine AA ?_
            exact R.callPan rfl rfl (panM h2) (bad (hnone (by unfold kidsOf inR; rw [h1, h2]; rfl)) (by omega) hfr)
        · refine AA ?_
          exact R.callPan rfl rfl pan86 (bad (hnone (by unfold kidsOf inR; rw [h1]; rfl)) (by omega) hfr)
      · rcases Bool.eq_false_or_eq_true other with h1 | h1
        · have hr := retM h1
          refine AA ?_
          exact W.skipCut 0 .auto ⟨rfl, by omega, by unfold kidsOf; rw [h1]; rfl⟩
        · refine AA ?_
          exact R.callPan rfl rfl (panM h1) (bad (hnone (by unfold kidsOf; rw [h1]; rfl)) (by omega) hfr)
      · rcases hop with rfl | rfl | rfl <;>
        · refine AA ?_
          exact W.skipCut 0 .auto ⟨rfl, by omega, rfl⟩
      · rcases hop with rfl | rfl | rfl | rfl | rfl <;>
        · refine AA ?_
          exact W.skipCut 2 .auto ⟨rfl, by omega, rfl⟩
      · have e1 : (op == 1) = false := by simpa using n1
        have e2 : (op == 2) = false := by simpa using n2
        have e3 : (op == 3) = false := by simpa using n3
        have e4 : (op == 4) = false := by simpa using n4
        have e5 : (op == 5) = false := by simpa using n5
        have e6 : (op == 6) = false := by simpa using n6
        have e7 : (op == 7) = false := by simpa using n7
        have e8 : (op == 8) = false := by simpa using n8
        have e9 : (op == 9) = false := by simpa using n9
        have e10 : (op == 10) = false := by simpa using n10
        refine AA ?_
        exact R.callPan rfl rfl pan86 (bad (hnone (by unfold kidsOf; simp [n1, n2, n3, n4, n5, n6, n7, n8, n9, n10])) (by omega) hfr)
    rintro k nx2 G2 ⟨rfl, hx2, hk⟩
    rw [hk] at hmk
    dsimp only at hmk
    have hlv : (Trm.ivs kids).length = kids.length := tivs_len kids
    have bad2 : (kids.length ≠ k ∨ (op ≠ 1 ∧ n' ≠ 0)) → calcR (.mk op n' kids) other depth (60 - n) = -1 := fun h => by rw [hmk, if_pos h]
    refine W.cut (X := Unit) (fun _ => [(0, .ptr o 0), (2, .imm (.bool other)), (3, .imm (.int .i64 depth)), (5, .ptr (nx + 0) 0)])
      (fun _ nx3 G3 => G3 = G2 ∧ nx2 ≤ nx3 ∧ kids.length = k ∧ (op = 1 ∨ n' = 0)) ?_ ?_
    · rcases Bool.eq_false_or_eq_true (((Trm.ivs kids).length : Int) == (k : Int)) with hA | hA
      · have hA' : kids.length = k := by rw [hlv] at hA; simp at hA; omega
        rcases Bool.eq_false_or_eq_true (op == 1) with hB | hB
        · have hr := retM (b := true) rfl
          refine AA ?_
          exact W.skipCut () .auto ⟨rfl, by omega, hA', .inl (by simpa using hB)⟩
        · rcases Bool.eq_false_or_eq_true (n' == 0) with hN | hN
          · have hr := retM hN
            refine AA ?_
            exact W.skipCut () .auto ⟨rfl, by omega, hA', .inr (by simpa using hN)⟩
          · refine AA ?_
            exact R.callPan rfl rfl (panM hN) (bad (bad2 (.inr ⟨by simpa using hB, by simpa using hN⟩)) (by omega) hfr)
      · refine AA ?_
        exact R.callPan rfl rfl pan86 (bad (bad2 (.inl (by rw [hlv] at hA; simp at hA; omega))) (by omega) hfr)
    rintro _ nx3 G3 ⟨rfl, hx3, hA, hB⟩
    rw [if_neg (by omega)] at hmk
    refine AA ?_
    refine W.loop (X := Nat × Int) (fun x => [(0, .ptr o 0), (2, .imm (.bool other)), (3, .imm (.int .i64 depth)), (59, .imm (.lst (Trm.ivs kids))), (60, .imm (.int .i64 (Trm.ivs kids).length)), (61, .imm (.int .i64 x.1))])
      (fun x nx2 G2 => G2 o = .box [a, b, cc, d, .imm (.int .i64 (n + x.2))] false ∧ (∀ q, q < nx → q ≠ o → G2 q = G q) ∧ nx + 1 ≤ nx2 ∧ x.1 ≤ kids.length ∧ (1 ≤ x.2 ∧ x.2 ≤ 60 - n) ∧ calcR (.mk op n' kids) other depth (60 - n) = calcRs (kids.drop x.1) other depth (60 - n) x.2)
      (fun x => kids.length - x.1) (0, 1) .auto ⟨h2, hfr, by omega, Nat.zero_le _, by dsimp only; omega, hmk⟩ ?_
    clear h2 hfr hmk bad2 hx2 hx3
    rintro ⟨i, m⟩ nx2 G2 ⟨hGo, hfr, hx, hi, hm, he⟩
    dsimp only at hGo hi hm he ⊢
    rcases Bool.eq_false_or_eq_true (decide ((i : Int) < ((Trm.ivs kids).length : Int))) with hc | hc
    · have hlt : i < kids.length := by have := of_decide_eq_true hc; omega
      obtain ⟨kid, hxk⟩ := at_lt hlt
      have hxi := tivs_at hxk
      have hcl := kid.cells_len
      have ihk := @ih kid (List.mem_of_getElem? hxk)
      have hle := calcR_le kid other (depth + 1) (60 - n - m)
      rw [calcRs_drop hxk] at he
      have hmu : kids.length - (i + 1) < kids.length - i := by omega
      obtain ⟨o', m', k'⟩ := kid
      refine AA ?_
      refine R.callBP rfl rfl rfl rfl rfl ((ihk (n := n + m) (other := other) at_upd (by omega) (by omega) (by omega)).mono fun r hr => ?_)
      rw [show (60 : Int) - (n + m) = 60 - n - m by omega] at hr
      cases r with
      | pan u G' nx' =>
        obtain ⟨rfl, g1, g2, g3⟩ := hr
        rw [if_pos g1] at he
        exact bad he (by omega) fun q h4 h5 => (g3 q (by omega) h5).trans (Eq.trans at_upd (hfr q h4 h5))
      | ret v G' nx' =>
        obtain ⟨rfl, g1, g2, g3, g4⟩ := hr
        rw [if_neg (by omega)] at he
        refine AA ?_
        refine W.skipLop (i + 1, m + calcR (.mk o' m' k') other (depth + 1) (60 - n - m)) hmu .auto ⟨?_, fun q h4 h5 => (g4 q (by omega) h5).trans (Eq.trans at_upd (hfr q h4 h5)), by omega, hlt, ?_, he⟩
        · rw [g2, Int.add_assoc]
        · dsimp only
          have := hle g1
          omega
    · have hge : kids.length ≤ i := by have := of_decide_eq_false hc; omega
      rw [List.drop_eq_nil_of_le hge, calcRs] at he
      rw [he]
      refine AA ?_
      exact W.skipFinP rfl ⟨rfl, by omega, hGo, by omega, hfr⟩
end Go.Abs

/- Programs that are looked at: maps of numbers and of shapes. -/
open Go Go.Abs
namespace Go.Abs
set_option maxRecDepth 100000
set_option maxHeartbeats 4000000
instance fnis87 : FnIs CC 104 := ⟨rfl, fun _ => rfl⟩
instance fnis88 : FnIs CC 105 := ⟨rfl, fun _ => rfl⟩
instance fnis75 : FnIs CC 51 := ⟨rfl, fun _ => rfl⟩
instance fnis76 : FnIs CC 52 := ⟨rfl, fun _ => rfl⟩
def shpT (s : Shp) : IV := .agg [.int .i64 s.kids, .int .i64 s.calcs, .bool s.name, .bool s.fold, .int .i64 s.low, .int .i64 s.high]
def sOr (op : Int) : Shp := (shapeR op).getD ⟨0, 0, false, false, 0, 0⟩
def shapeKeys : List IV := (List.range 15).map fun (i : Nat) => .int .i64 (i + 1)
def shapeVals : List IV := (List.range 15).map fun (i : Nat) => shpT (sOr (i + 1))
def shapesIV : IV := .fmp shapeKeys shapeVals
theorem ret87 : Ret CC 104 [] shapesIV := Ret.reckon (n := 60) (by kernel_rfl)
theorem keyFind_none {k : IV} : ∀ {l : List IV}, (∀ x ∈ l, scalarEq k x = some false) → keyFind k l = some none
  | [], _ => rfl
  | x :: r, h => by
    unfold keyFind
    rw [h x (by simp), keyFind_none fun y hy => h y (by simp [hy])]
    rfl
theorem shLook (op : Int) : lookIs (some ty55) (some ty137) (some (shapeKeys, shapeVals.map .imm)) (.int .i64 op) true (.imm (.tup [shpT (sOr op), .bool (shapeR op).isSome])) := by
  refine ⟨rfl, ?_⟩
  rcases ops15 op with rfl | rfl | rfl | rfl | rfl | rfl | rfl | rfl | rfl | rfl | rfl | rfl | rfl | rfl | rfl | ⟨n1, n2, n3, n4, n5, n6, n7, n8, n9, n10, n11, n12, n13, n14, n15⟩
  iterate 15 exact .inl ⟨_, _, by rfl, by rfl, by rfl⟩
  have hs : shapeR op = none := by unfold shapeR; simp [n1, n2, n3, n4, n5, n6, n7, n8, n9, n10, n11, n12, n13, n14, n15]
  refine .inr ⟨?_, ?_⟩
  · refine keyFind_none fun x hx => ?_
    simp only [shapeKeys, List.mem_map, List.mem_range] at hx
    obtain ⟨i, hi, rfl⟩ := hx
    have : ¬ op = (i : Int) + 1 := by omega
    simp [scalarEq, this]
  · unfold sOr; rw [hs]; rfl
def numIV (l : List Str) : IV := .fmp (l.map sv) ((List.range l.length).map natIV)
def idxN (l : List Str) (s : Str) : Nat := (l.findIdx? fun x => s == x).getD 0
theorem findIdx_contains (s : Str) : ∀ l : List Str, (l.findIdx? fun x => s == x).isSome = l.contains s
  | [] => rfl
  | x :: r => by
    rw [List.findIdx?_cons, List.contains_cons]
    cases h : s == x with
    | true => simp
    | false =>
      simp only [Bool.false_or]
      rw [← findIdx_contains s r]
      cases (r.findIdx? fun x => s == x) <;> rfl
theorem findIdx_lt {s : Str} {j : Nat} : ∀ {l : List Str}, (l.findIdx? fun x => s == x) = some j → j < l.length
  | [], h => by cases h
  | x :: r, h => by
    rw [List.findIdx?_cons] at h
    split at h
    · cases h; simp
    · cases hr : r.findIdx? fun x => s == x with
      | none => rw [hr] at h; cases h
      | some k =>
        rw [hr] at h
        cases h
        have := findIdx_lt hr
        simp; omega
theorem numLook (l : List Str) (s : Str) : lookIs (some ty9) (some ty3) (some (l.map sv, ((List.range l.length).map natIV).map .imm)) (sv s) true (.imm (.tup [natIV (idxN l s), .bool (l.contains s)])) := by
  refine ⟨rfl, ?_⟩
  rw [keyFind_sv, ← findIdx_contains]
  unfold idxN
  cases h : l.findIdx? fun x => s == x with
  | none => exact .inr ⟨rfl, rfl⟩
  | some j =>
    have := findIdx_lt h
    refine .inl ⟨j, .imm (natIV j), rfl, ?_, rfl⟩
    simp [this]
theorem numLook0 (l : List Str) (s : Str) : lookIs (some ty9) (some ty3) (some (l.map sv, ((List.range l.length).map natIV).map .imm)) (sv s) false (.imm (natIV (idxN l s))) := by
  refine ⟨rfl, ?_⟩
  rw [keyFind_sv]
  unfold idxN
  cases h : l.findIdx? fun x => s == x with
  | none => exact .inr ⟨rfl, rfl⟩
  | some j =>
    have := findIdx_lt h
    refine .inl ⟨j, .imm (natIV j), rfl, ?_, rfl⟩
    simp [this]
theorem idxN_take {l : List Str} {s : Str} (k : Nat) : (l.take k).contains s = (l.contains s && decide (((idxN l s : Nat) : Int) < (k : Int))) := by
  induction l generalizing k with
  | nil => simp
  | cons x r ih =>
    cases k with
    | zero => simp
    | succ k =>
      rw [List.take_succ_cons, List.contains_cons, List.contains_cons]
      unfold idxN
      rw [List.findIdx?_cons]
      cases h : s == x with
      | true => simp
      | false =>
        simp only [Bool.false_or, Bool.false_eq_true, if_false]
        rw [ih k, ← findIdx_contains]
        unfold idxN
        cases r.findIdx? fun x => s == x with
        | none => simp
        | some j =>
          simp only [Option.isSome_some, Bool.true_and, Option.getD_some, Option.map_some]
          apply decide_eq_decide.2
          omega
def Others (ov : IV) (others : List Str) : Prop := ∀ (G : Nat → Obj) (s : Str), ∃ u : IV, lookIs (some ty9) (some ty3) (mapKV G (.imm ov)) (sv s) true (.imm (.tup [u, .bool (others.contains s)]))
theorem others_nil : Others .nilmap [] := fun _ _ => ⟨.int .i64 0, rfl, .inr ⟨rfl, rfl⟩⟩
theorem others_num (l : List Str) : Others (numIV l) l := fun _ s => ⟨_, numLook l s⟩
def okAt (others l : List Str) (i : Nat) : Bool := nameOk (l.getD i []) && !(l.take i).contains (l.getD i []) && !others.contains (l.getD i [])
def fresh (others l : List Str) : Bool := (List.range l.length).all (okAt others l)
theorem fresh_bad {others l : List Str} {i : Nat} (hi : i < l.length) (h : okAt others l i = false) : fresh others l = false :=
  List.all_eq_false.2 ⟨i, by simpa using hi, by rw [h]; decide⟩
theorem numAt {l : List Str} {i : Nat} {s : Str} (h : l[i]? = some s) : (l.take (i + 1)).map sv = (l.take i).map sv ++ [sv s] ∧ ((List.range (i + 1)).map natIV).map AV.imm = ((List.range i).map natIV).map AV.imm ++ [.imm (natIV i)] := by
  refine ⟨?_, ?_⟩
  · rw [List.take_add_one, h]; simp
  · rw [List.range_succ]; simp
theorem cal88 (l others : List Str) (ov : IV) (ho : Others ov others) (hl : l.length ≤ 9223372036854775807) (hls : ∀ s ∈ l, s.length ≤ 9223372036854775807) :
    CalP CC 105 ([.lst (l.map sv), ov].map .imm) (fun _ => .gone) 0 fun
      | .ret v G' _ => fresh others l = true ∧ ∃ ids, peek G' pkDepth v = some (numIV l, ids)
      | .pan u _ _ => u = unf ∧ fresh others l = false := by
  have hlm : (l.map sv).length = l.length := List.length_map ..
  refine CalP.of (fn := Go.Proofs.Tryz.f105) (by kernel_rfl) rfl rfl ?_
  refine AA ?_
  refine W.loop (X := Nat) (fun i => [(1, .imm ov), (5, .map 1), (13, .imm (.lst (l.map sv))), (14, .imm (.int .i64 (l.map sv).length)), (15, .imm (.int .i64 i))])
    (fun i _ G => G 1 = .mp ((l.take i).map sv) (((List.range i).map natIV).map .imm) false ∧ i ≤ l.length ∧ (List.range i).all (okAt others l) = true)
    (fun i => l.length - i) 0 .auto ⟨rfl, Nat.zero_le _, rfl⟩ ?_
  rintro i nx G ⟨hG, hi, hall⟩
  rcases Bool.eq_false_or_eq_true (decide ((i : Int) < ((l.map sv).length : Int))) with hc | hc
  · have hlt : i < l.length := by have := of_decide_eq_true hc; omega
    obtain ⟨s, hx⟩ := at_lt hlt
    have hxi := at_map sv hx
    have hmu : l.length - (i + 1) < l.length - i := by omega
    have hr10 := ret10 s (hls s (List.mem_of_getElem? hx))
    have hgd : l.getD i [] = s := by rw [List.getD_eq_getElem?_getD, hx]; rfl
    have hok : okAt others l i = (nameOk s && !(l.take i).contains s && !others.contains s) := by unfold okAt; rw [hgd]
    obtain ⟨u, h2⟩ := ho G s
    have h1 := numLook (l.take i) s
    rw [List.length_take, Nat.min_eq_left hi] at h1
    have h1 : lookIs (some ty9) (some ty3) (mapKV G (.map 1)) (sv s) true (.imm (.tup [natIV (idxN (l.take i) s), .bool ((l.take i).contains s)])) := by
      simp only [mapKV, hG]; exact h1
    have hkey : (l.take i).contains s = false → keyFind (sv s) ((l.take i).map sv) = some none := fun h => by
      rw [← findIdx_contains] at h
      rw [keyFind_sv]
      cases h' : (l.take i).findIdx? fun x => s == x with
      | none => rfl
      | some j => rw [h'] at h; cases h
    have hno : okAt others l i = false → fresh others l = false := fresh_bad hlt
    rcases Bool.eq_false_or_eq_true (nameOk s) with hA | hA
    · rcases Bool.eq_false_or_eq_true ((l.take i).contains s) with hB | hB
      · have hB' : (!(l.take i).contains s) = false := by rw [hB]; rfl
        refine AA ?_
        exact R.callPan rfl rfl pan86 (panTo ⟨rfl, hno (by rw [hok, hB]; simp)⟩)
      · have hB' : (!(l.take i).contains s) = true := by rw [hB]; rfl
        rcases Bool.eq_false_or_eq_true (!others.contains s) with hC | hC
        · have hr := retM hC
          refine AA ?_
          refine R.opN1 (O.mapNew rfl inferInstance rfl rfl rfl hG rfl (hkey hB)) ?_
          refine AA ?_
          refine W.skipLop (i + 1) hmu .auto ⟨?_, hlt, ?_⟩
          · obtain ⟨e1, e2⟩ := numAt hx
            rw [upd_same, e1, e2]; rfl
          · rw [List.range_succ, List.all_append, hall]
            rw [List.all_cons, hok, hA, hB', hC]; rfl
        · refine AA ?_
          exact R.callPan rfl rfl (panM hC) (panTo ⟨rfl, hno (by rw [hok, hC]; simp)⟩)
    · refine AA ?_
      exact R.callPan rfl rfl pan86 (panTo ⟨rfl, hno (by rw [hok, hA]; simp)⟩)
  · have hge : l.length ≤ i := by have := of_decide_eq_false hc; omega
    have he : i = l.length := by omega
    subst he
    refine AA ?_
    rw [List.take_length] at hG
    exact W.retFinP rfl ⟨hall, peek_mp hG⟩
theorem CalP.split {C : Cfg} {f : FuncId} {ivs : List IV} {x u : IV} {ok : Bool} (hu : u.scalar = true) (h : CalP C f (ivs.map .imm) (fun _ => .gone) 0 fun
      | .ret v G' _ => ok = true ∧ ∃ ids, peek G' pkDepth v = some (x, ids)
      | .pan w _ _ => w = u ∧ ok = false) : (ok = true → Ret C f ivs x) ∧ (ok = false → RetPan C f ivs u) := by
  obtain ⟨n, r, h1, h2⟩ := h
  cases r with
  | ret v G' nx' =>
    obtain ⟨h3, ids, h4⟩ := h2
    exact ⟨fun _ => ⟨n, v, G', nx', _, ids, h1, h4⟩, fun h => by rw [h3] at h; cases h⟩
  | pan w G' nx' =>
    obtain ⟨rfl, h3⟩ := h2
    exact ⟨(fun h => by rw [h3] at h; cases h), fun _ => ⟨n, G', nx', _, h1, hu⟩⟩
theorem ret88 {l others : List Str} {ov : IV} (ho : Others ov others) (hl : l.length ≤ 9223372036854775807) (hls : ∀ s ∈ l, s.length ≤ 9223372036854775807) :
    (fresh others l = true → Ret CC 105 [.lst (l.map sv), ov] (numIV l)) ∧ (fresh others l = false → RetPan CC 105 [.lst (l.map sv), ov] unf) :=
  CalP.split rfl (cal88 l others ov ho hl hls)
theorem ret76 (d : Dfn) : Ret CC 52 [d.iv] (sv d.name) := by
  obtain ⟨nm, ⟨o', s', n', f', c', k'⟩⟩ := d
  refine Ret.of (fn := Go.Proofs.Tryz.f52) (by kernel_rfl) rfl rfl ?_
  refine AA ?_
  exact W.retFin1 rfl ⟨[], rfl⟩
theorem ret75 (l : List Dfn) (hl : l.length ≤ 4294967296) : Ret CC 51 [.lst (l.map Dfn.iv), .fn (.func 52) []] (.lst ((l.map Dfn.name).map sv)) := by
  have hlm : (l.map Dfn.iv).length = l.length := List.length_map ..
  refine Ret.of (fn := Go.Proofs.Tryz.f51) (by kernel_rfl) rfl rfl ?_
  refine AA ?_
  refine W.loop (X := Nat × AV) (fun x => [(1, .imm (.fn (.func 52) [])), (8, .imm (.lst (l.map Dfn.iv))), (9, .imm (.int .i64 (l.map Dfn.iv).length)), (10, .imm (.int .i64 x.1)), (5, x.2)])
    (fun x nx G => x.1 ≤ l.length ∧ Own 9 1 0 nx (((l.map Dfn.name).take x.1).map sv) G x.2)
    (fun x => l.length - x.1) (0, .nils) .auto ⟨Nat.zero_le _, .nil ..⟩ ?_
  rintro ⟨i, v⟩ nx G ⟨hi, ho⟩
  dsimp only at hi ho ⊢
  rcases Bool.eq_false_or_eq_true (decide ((i : Int) < ((l.map Dfn.iv).length : Int))) with hc | hc
  · have hlt : i < l.length := by have := of_decide_eq_true hc; omega
    obtain ⟨d, hx⟩ := at_lt hlt
    have hxi := at_map Dfn.iv hx
    have hdc := d.cells_len
    have hmu : l.length - (i + 1) < l.length - i := by omega
    have hr := ret76 d
    have htk : ((l.map Dfn.name).take (i + 1)).map sv = ((l.map Dfn.name).take i).map sv ++ [sv d.name] := by
      rw [List.take_add_one, List.getElem?_map, hx]; simp
    obtain ⟨nm, ⟨o', s', n', f', c', k'⟩⟩ := d
    refine AA ?_
    refine R.app1 ho at_upd (by simp only [List.length_map, List.length_take, most]; omega) fun v' G' ho' hG' => ?_
    rw [← htk] at ho'
    refine AA ?_
    exact W.skipLop (i + 1, v') hmu .auto ⟨hlt, ho'.fr⟩
  · have hge : l.length ≤ i := by have := of_decide_eq_false hc; omega
    rw [List.take_of_length_le (by simpa using hge)] at ho
    refine AA ?_
    exact W.retFin1 rfl ho.peek
end Go.Abs

/- Programs that are looked at: expressions. -/
open Go Go.Abs
namespace Go.Abs
set_option maxRecDepth 100000
set_option maxHeartbeats 4000000
theorem shapeR_sOr {op : Int} {s : Shp} (h : shapeR op = some s) : sOr op = s := by unfold sOr; rw [h]; rfl
theorem cal89 {o : Nat} {srcs names : List Str} {ahead : Nat} {e : Exp} (hf : e.Fits) : ∀ {nx : Nat} {G : Nat → Obj} {n depth : Int}, G o = .box [.imm (numIV srcs), .imm (numIV names), .imm shapesIV, .imm (.int .i64 ahead), .imm (.int .i64 n)] false → o < nx → (0 ≤ n ∧ n ≤ 60) → (-1000 ≤ depth ∧ depth ≤ 1000) →
    CalP CC 106 [.ptr o 0, .imm e.iv, .imm (.int .i64 depth)] G nx (SPost o (.imm (numIV srcs)) (.imm (numIV names)) (.imm shapesIV) (.imm (.int .i64 ahead)) n (expR srcs names ahead e depth (60 - n)) G nx) := by
  induction hf with
  | mk op name n' fold calcs kids hnm hw hc hk hcs hks ih =>
  intro nx G n depth hG ho hn hd
  have hc' : calcs.length ≤ 9223372036854775807 := hc
  have hk' : kids.length ≤ 9223372036854775807 := hk
  have hlk := ivs_len kids
  have hlc := tivs_len calcs
  refine CalP.of (fn := Go.Proofs.Tryz.f106) (by kernel_rfl) rfl rfl ?_
  refine AA ?_
  refine R.callBP rfl rfl rfl rfl rfl ((cal103 (o := o) (n := n) at_upd (by omega) (by omega)).mono fun r hr => ?_)
  cases r with
  | pan u G' nx' =>
    obtain ⟨rfl, h1, h2, h3⟩ := hr
    have e : expR srcs names ahead (.mk op name n' fold calcs kids) depth (60 - n) = -1 := by
      rw [expR]
      split
      · rfl
      · rw [if_pos]
        unfold oneR at h1
        split at h1
        · assumption
        · omega
    rw [e]
    exact panTo ⟨rfl, by decide, by omega, fun q h4 h5 => (h3 q (by omega) h5).trans at_upd⟩
  | ret v G' nx' =>
    obtain ⟨rfl, h1, h2, h3, h4⟩ := hr
    dsimp only
    have hor : oneR depth (60 - n) = 1 := by unfold oneR at h1 ⊢; split <;> simp_all
    have hdl : ¬ (depth > 10 ∨ (60 - n) < 1) := by unfold oneR at h1; split at h1 <;> omega
    rw [hor] at h2
    have hB : G' (nx + 0) = .box [.imm (.int .i64 op), .imm (sv name), .imm (.int .i64 n'), .imm (.int .i64 fold), .imm (.lst (Trm.ivs calcs)), .imm (.lst (Exp.ivs kids))] false := (h4 _ (by omega) (by omega)).trans at_upd
    have hfr : ∀ q, q < nx → q ≠ o → G' q = G q := fun q h5 h6 => (h4 q (by omega) h6).trans at_upd
    have hnx : nx + 1 ≤ nx' := by omega
    clear h3 h4 h1 hor
    have bad : expR srcs names ahead (.mk op name n' fold calcs kids) depth (60 - n) = -1 → ∀ {G2 : Nat → Obj} {nx2 : Nat} {l : Env}, nx + 1 ≤ nx2 → (∀ q, q < nx → q ≠ o → G2 q = G q) →
        ∀ t, Agree t l → finP CC Go.Proofs.Tryz.f106.results.toList (SPost o (.imm (numIV srcs)) (.imm (numIV names)) (.imm shapesIV) (.imm (.int .i64 ahead)) n (expR srcs names ahead (.mk op name n' fold calcs kids) depth (60 - n)) G nx) (.pan unf ⟨t, G2, nx2, [], .no⟩) := by
      intro e G2 nx2 l h1 h2
      rw [e]
      exact panTo ⟨rfl, by decide, by omega, h2⟩
    have hL := shLook op
    have hL1 := numLook srcs name
    have hL2 := numLook names name
    have hnone : shapeR op = none → expR srcs names ahead (.mk op name n' fold calcs kids) depth (60 - n) = -1 := fun h => by rw [expR, h]
    rcases Bool.eq_false_or_eq_true (shapeR op).isSome with hS | hS
    rotate_left
    · refine AN ?_
      exact R.callPan rfl rfl pan86 (bad (hnone (by simpa using hS)) (by omega) fun q h5 h6 => Eq.trans at_upd (hfr q h5 h6))
    obtain ⟨s, hs⟩ := Option.isSome_iff_exists.1 hS
    rw [shapeR_sOr hs] at hL
    have hbad : headIs srcs names ahead s op name n' fold calcs.length kids.length = false → expR srcs names ahead (.mk op name n' fold calcs kids) depth (60 - n) = -1 := fun h => by
      rw [expR, hs]; simp only [h]; split <;> rfl
    rcases Bool.eq_false_or_eq_true (((Exp.ivs kids).length : Int) == (s.kids : Int)) with hD | hD
    rotate_left
    · refine AN ?_
      exact R.callPan rfl rfl pan86 (bad (hbad (by rw [hlk] at hD; simp at hD; unfold headIs; simp; omega)) (by omega) fun q h5 h6 => Eq.trans at_upd (hfr q h5 h6))
    rcases Bool.eq_false_or_eq_true (((Trm.ivs calcs).length : Int) == (s.calcs : Int)) with hC | hC
    rotate_left
    · refine AN ?_
      exact R.callPan rfl rfl pan86 (bad (hbad (by rw [hlc] at hC; simp at hC; unfold headIs; simp; omega)) (by omega) fun q h5 h6 => Eq.trans at_upd (hfr q h5 h6))
    rcases Bool.eq_false_or_eq_true (s.name == !(name == [])) with hE | hE
    rotate_left
    · refine AN ?_
      exact R.callPan rfl rfl pan86 (bad (hbad (by unfold headIs; rw [hE]; simp)) (by omega) fun q h5 h6 => Eq.trans at_upd (hfr q h5 h6))
    rcases Bool.eq_false_or_eq_true (decide (n' ≥ s.low)) with hF | hF
    rotate_left
    · refine AN ?_
      exact R.callPan rfl rfl pan86 (bad (hbad (by unfold headIs inR; rw [hF]; simp)) (by omega) fun q h5 h6 => Eq.trans at_upd (hfr q h5 h6))
    rcases Bool.eq_false_or_eq_true (decide (n' ≤ s.high)) with hF2 | hF2
    rotate_left
    · refine AN ?_
      exact R.callPan rfl rfl (panM hF2) (bad (hbad (by unfold headIs inR; rw [hF, hF2]; simp)) (by omega) fun q h5 h6 => Eq.trans at_upd (hfr q h5 h6))
    have hC' : calcs.length = s.calcs := by rw [hlc] at hC; simp at hC; omega
    have hD' : kids.length = s.kids := by rw [hlk] at hD; simp at hD; omega
    have hF' : inR n' s.low s.high = true := by unfold inR; rw [hF, hF2]; rfl
    have hfold : foldIs s fold = false → headIs srcs names ahead s op name n' fold calcs.length kids.length = false := fun h => by unfold headIs; rw [h]; simp
    have hname : foldIs s fold = true → headIs srcs names ahead s op name n' fold calcs.length kids.length = nameIs srcs names ahead op name := fun h => by
      unfold headIs; rw [hC', hD', hE, hF', h]; simp
    have hr := retM hF2
    refine A1 ?_
    refine A1 ?_
    refine A1 ?_
    refine W.cut (X := Unit) (fun _ => [(0, .ptr o 0), (2, .imm (.int .i64 depth)), (4, .ptr (nx + 0) 0)])
      (fun _ nx2 G2 => nx' ≤ nx2 ∧ G2 o = G' o ∧ G2 (nx + 0) = G' (nx + 0) ∧ (∀ q, q < nx → q ≠ o → G2 q = G q) ∧ foldIs s fold = true) ?_ ?_
    · clear hL1 hL2 hr
      cases hFo : s.fold with
      | true =>
        have hfi : foldIs s fold = (decide (fold ≥ 1) && decide (fold ≤ 4)) := by unfold foldIs; rw [hFo]; rfl
        rcases Bool.eq_false_or_eq_true (decide (fold ≥ 1)) with hI | hI
        · rcases Bool.eq_false_or_eq_true (decide (fold ≤ 4)) with hJ | hJ
          · have hr := retM (b := true) rfl
            refine AN ?_
            exact W.skipCut () .auto ⟨by omega, at_upd, at_upd, fun q h5 h6 => Eq.trans at_upd (hfr q h5 h6), by rw [hfi, hI, hJ]; rfl⟩
          · have hFn : (!s.fold) = false := by rw [hFo]; rfl
            refine AN ?_
            exact R.callPan rfl rfl pan86 (bad (hbad (hfold (by rw [hfi, hJ]; simp))) (by omega) fun q h5 h6 => Eq.trans at_upd (hfr q h5 h6))
        · have hFn : (!s.fold) = false := by rw [hFo]; rfl
          refine AN ?_
          exact R.callPan rfl rfl pan86 (bad (hbad (hfold (by rw [hfi, hI]; simp))) (by omega) fun q h5 h6 => Eq.trans at_upd (hfr q h5 h6))
      | false =>
        have hFn : (!s.fold) = true := by rw [hFo]; rfl
        have hfi : foldIs s fold = (fold == 0) := by unfold foldIs; rw [hFo]; rfl
        rcases Bool.eq_false_or_eq_true (fold == 0) with hI | hI
        · have hr := retM hI
          refine AN ?_
          exact W.skipCut () .auto ⟨by omega, at_upd, at_upd, fun q h5 h6 => Eq.trans at_upd (hfr q h5 h6), by rw [hfi]; exact hI⟩
        · refine AN ?_
          exact R.callPan rfl rfl (panM hI) (bad (hbad (hfold (by rw [hfi]; exact hI))) (by omega) fun q h5 h6 => Eq.trans at_upd (hfr q h5 h6))
    rintro _ nx2 G2 ⟨hx2, hG2o, hG2e, hfr2, hfo⟩
    rw [h2] at hG2o
    rw [hB] at hG2e
    have hname := hname hfo
    have hmk : expR srcs names ahead (.mk op name n' fold calcs kids) depth (60 - n) = if nameIs srcs names ahead op name then (if calcRs calcs (other op) 0 (60 - n) 1 < 0 then -1 else expRs srcs names ahead kids depth (60 - n) (calcRs calcs (other op) 0 (60 - n) 1)) else -1 := by
      rw [expR, hs]; simp only [if_neg (show ¬ (depth > 10 ∨ (60 - n) < 1) by omega), hname]
    generalize expR srcs names ahead (.mk op name n' fold calcs kids) depth (60 - n) = res at hmk bad ⊢
    clear hbad hname hfold hnone hL hr hF hF2 hE hC hD hS hfo hB h2
    refine A1 ?_
    refine A1 ?_
    refine W.cut (X := Unit) (fun _ => [(0, .ptr o 0), (2, .imm (.int .i64 depth)), (4, .ptr (nx + 0) 0)])
      (fun _ nx3 G3 => nx2 ≤ nx3 ∧ G3 = G2 ∧ nameIs srcs names ahead op name = true) ?_ ?_
    · have hno : nameIs srcs names ahead op name = false → res = -1 := fun h => by rw [hmk, h]; rfl
      by_cases e1 : op = 1
      · subst e1
        have hni : nameIs srcs names ahead 1 name = srcs.contains name := rfl
        rcases Bool.eq_false_or_eq_true (srcs.contains name) with hI | hI
        · have hr := retM hI
          refine AN ?_
          exact W.skipCut () .auto ⟨by omega, rfl, by rw [hni]; exact hI⟩
        · refine AN ?_
          exact R.callPan rfl rfl (panM hI) (bad (hno (by rw [hni]; exact hI)) (by omega) hfr2)
      by_cases e2 : op = 2
      · subst e2
        have hni : nameIs srcs names ahead 2 name = (names.contains name && decide (((idxN names name : Nat) : Int) < (ahead : Int))) := idxN_take ahead
        rcases Bool.eq_false_or_eq_true (names.contains name) with hI | hI
        · rcases Bool.eq_false_or_eq_true (decide (((idxN names name : Nat) : Int) < (ahead : Int))) with hJ | hJ
          · have hr := retM hJ
            refine AN ?_
            exact W.skipCut () .auto ⟨by omega, rfl, by rw [hni, hI, hJ]; rfl⟩
          · refine AN ?_
            exact R.callPan rfl rfl (panM hJ) (bad (hno (by rw [hni, hI, hJ]; rfl)) (by omega) hfr2)
        · refine AN ?_
          exact R.callPan rfl rfl pan86 (bad (hno (by rw [hni, hI]; rfl)) (by omega) hfr2)
      by_cases e3 : op = 3
      · subst e3
        have hni : nameIs srcs names ahead 3 name = names.contains name := rfl
        rcases Bool.eq_false_or_eq_true (names.contains name) with hI | hI
        · have hr := retM hI
          refine AN ?_
          exact W.skipCut () .auto ⟨by omega, rfl, by rw [hni]; exact hI⟩
        · refine AN ?_
          exact R.callPan rfl rfl (panM hI) (bad (hno (by rw [hni]; exact hI)) (by omega) hfr2)
      have hn : nameIs srcs names ahead op name = true := by unfold nameIs; simp [e1, e2, e3]
      have e1' : (op == 1) = false := by simpa using e1
      have e2' : (op == 2) = false := by simpa using e2
      have e3' : (op == 3) = false := by simpa using e3
      refine AN ?_
      exact W.skipCut () .auto ⟨by omega, rfl, hn⟩
    rintro _ nx3 G3 ⟨hx3, rfl, hni⟩
    rw [hni, if_pos rfl] at hmk
    clear hL1 hL2
    have hGe := hG2e
    refine AN ?_
    refine W.loop (X := Nat × Int) (fun x => [(0, .ptr o 0), (2, .imm (.int .i64 depth)), (4, .ptr (nx + 0) 0), (137, .imm (.lst (Trm.ivs calcs))), (138, .imm (.int .i64 (Trm.ivs calcs).length)), (139, .imm (.int .i64 x.1))])
      (fun x nx4 G4 => nx + 1 ≤ nx4 ∧ G4 o = .box [.imm (numIV srcs), .imm (numIV names), .imm shapesIV, .imm (.int .i64 ahead), .imm (.int .i64 (n + x.2))] false ∧ G4 (nx + 0) = .box [.imm (.int .i64 op), .imm (sv name), .imm (.int .i64 n'), .imm (.int .i64 fold), .imm (.lst (Trm.ivs calcs)), .imm (.lst (Exp.ivs kids))] false ∧
        (∀ q, q < nx → q ≠ o → G4 q = G q) ∧ x.1 ≤ calcs.length ∧ (1 ≤ x.2 ∧ x.2 ≤ 60 - n) ∧ res = (if calcRs (calcs.drop x.1) (other op) 0 (60 - n) x.2 < 0 then -1 else expRs srcs names ahead kids depth (60 - n) (calcRs (calcs.drop x.1) (other op) 0 (60 - n) x.2)))
      (fun x => calcs.length - x.1) (0, 1) .auto ⟨by omega, hG2o, hGe, hfr2, Nat.zero_le _, by dsimp only; omega, hmk⟩ ?_
    clear hG2o hG2e hGe hfr2 hmk hx2 hx3 hni hfr
    rintro ⟨i, m⟩ nx4 G4 ⟨hx4, hGo, hGe, hfr, hi, hm, he⟩
    dsimp only at hGo hi hm he ⊢
    rcases Bool.eq_false_or_eq_true (decide ((i : Int) < ((Trm.ivs calcs).length : Int))) with hc | hc
    · have hlt : i < calcs.length := by have := of_decide_eq_true hc; omega
      obtain ⟨kid, hxk⟩ := at_lt hlt
      have hxi := tivs_at hxk
      have hcl := kid.cells_len
      have ihk := fun (oth : Bool) (nx : Nat) (G : Nat → Obj) (n : Int) h1 h2 h3 => @cal104 o (.imm (numIV srcs)) (.imm (numIV names)) (.imm shapesIV) (.imm (.int .i64 ahead)) kid (hcs kid (List.mem_of_getElem? hxk)) nx G n 1 oth h1 h2 h3 (by omega)
      have hle := calcR_le kid (other op) 1 (60 - n - m)
      rw [calcRs_drop hxk, show (0 : Int) + 1 = 1 from rfl] at he
      have hmu : calcs.length - (i + 1) < calcs.length - i := by omega
      obtain ⟨o', m', k'⟩ := kid
      have go : ∀ oth : Bool, other op = oth → ∀ {nx5 : Nat} {G5 : Nat → Obj} (hx5 : nx4 ≤ nx5) (hGo : G5 o = .box [.imm (numIV srcs), .imm (numIV names), .imm shapesIV, .imm (.int .i64 ahead), .imm (.int .i64 (n + m))] false), CalP CC 163 [.ptr o 0, .imm (Trm.mk o' m' k').iv, .imm (.bool oth), .imm (.int .i64 1)] G5 nx5
        (SPost o (.imm (numIV srcs)) (.imm (numIV names)) (.imm shapesIV) (.imm (.int .i64 ahead)) (n + m) (calcR (.mk o' m' k') (other op) 1 (60 - n - m)) G5 nx5) := by
        intro oth ho2 nx5 G5 h5 h6
        subst ho2
        have := ihk (other op) nx5 G5 (n + m) h6 (by omega) (by omega)
        rwa [show (60 : Int) - (n + m) = 60 - n - m by omega] at this
      clear ihk
      have fin : ∀ {r : CR} {nx5 : Nat} {G5 : Nat → Obj}, nx4 ≤ nx5 → (∀ q, q < nx4 → q ≠ o → G5 q = G4 q) → SPost o (.imm (numIV srcs)) (.imm (numIV names)) (.imm shapesIV) (.imm (.int .i64 ahead)) (n + m) (calcR (.mk o' m' k') (other op) 1 (60 - n - m)) G5 nx5 r → match r with
          | .ret v G6 nx6 => v = .imm (.tup []) ∧ nx + 1 ≤ nx6 ∧ G6 o = .box [.imm (numIV srcs), .imm (numIV names), .imm shapesIV, .imm (.int .i64 ahead), .imm (.int .i64 (n + (m + calcR (.mk o' m' k') (other op) 1 (60 - n - m))))] false ∧ G6 (nx + 0) = .box [.imm (.int .i64 op), .imm (sv name), .imm (.int .i64 n'), .imm (.int .i64 fold), .imm (.lst (Trm.ivs calcs)), .imm (.lst (Exp.ivs kids))] false ∧
              (∀ q, q < nx → q ≠ o → G6 q = G q) ∧ (1 ≤ m + calcR (.mk o' m' k') (other op) 1 (60 - n - m) ∧ m + calcR (.mk o' m' k') (other op) 1 (60 - n - m) ≤ 60 - n) ∧ ¬ (calcR (.mk o' m' k') (other op) 1 (60 - n - m) < 0)
          | .pan u G6 nx6 => u = unf ∧ nx + 1 ≤ nx6 ∧ (∀ q, q < nx → q ≠ o → G6 q = G q) ∧ calcR (.mk o' m' k') (other op) 1 (60 - n - m) < 0 := by
        intro r nx5 G5 h5 h6 hr
        cases r with
        | pan u G6 nx6 =>
          obtain ⟨g0, g1, g2, g3⟩ := hr
          exact ⟨g0, by omega, fun q h7 h8 => (g3 q (by omega) h8).trans ((h6 q (by omega) h8).trans (hfr q h7 h8)), g1⟩
        | ret v G6 nx6 =>
          obtain ⟨g0, g1, g2, g3, g4⟩ := hr
          have := hle g1
          exact ⟨g0, by omega, by rw [g2, Int.add_assoc], (g4 _ (by omega) (by omega)).trans ((h6 _ (by omega) (by omega)).trans hGe), fun q h7 h8 => (g4 q (by omega) h8).trans ((h6 q (by omega) h8).trans (hfr q h7 h8)), by omega, by omega⟩
      rcases Bool.eq_false_or_eq_true (op == 12) with h12 | h12
      all_goals
        refine AN ?_
        refine R.callBP rfl rfl rfl rfl rfl ((go _ (by unfold other; rw [h12]; rfl) (by omega) at_upd).mono fun r hr => ?_)
        have hf := fin (by omega) (fun q h1 h2 => at_upd) hr
        clear hr
        cases r with
        | pan u G6 nx6 =>
          obtain ⟨rfl, g1, g2, g3⟩ := hf
          rw [if_pos g3] at he
          exact bad (by rw [he]; rfl) g1 g2
        | ret v G6 nx6 =>
          obtain ⟨rfl, g1, g2, g3, g4, g5, g6⟩ := hf
          rw [if_neg g6] at he
          refine AN ?_
          exact W.skipLop (i + 1, m + calcR (.mk o' m' k') (other op) 1 (60 - n - m)) hmu .auto ⟨by omega, g2, g3, g4, hlt, g5, he⟩
    have hge : calcs.length ≤ i := by have := of_decide_eq_false hc; omega
    rw [List.drop_eq_nil_of_le hge, calcRs, if_neg (by omega)] at he
    refine AN ?_
    refine W.loop (X := Nat × Int) (fun x => [(0, .ptr o 0), (2, .imm (.int .i64 depth)), (156, .imm (.lst (Exp.ivs kids))), (157, .imm (.int .i64 (Exp.ivs kids).length)), (158, .imm (.int .i64 x.1))])
      (fun x nx4 G4 => nx + 1 ≤ nx4 ∧ G4 o = .box [.imm (numIV srcs), .imm (numIV names), .imm shapesIV, .imm (.int .i64 ahead), .imm (.int .i64 (n + x.2))] false ∧
        (∀ q, q < nx → q ≠ o → G4 q = G q) ∧ x.1 ≤ kids.length ∧ (1 ≤ x.2 ∧ x.2 ≤ 60 - n) ∧ res = expRs srcs names ahead (kids.drop x.1) depth (60 - n) x.2)
      (fun x => kids.length - x.1) (0, m) .auto ⟨by omega, hGo, hfr, Nat.zero_le _, hm, he⟩ ?_
    clear hGo hGe hfr he hm hc hge hi
    clear i m hx4
    rintro ⟨i, m⟩ nx4 G4 ⟨hx4, hGo, hfr, hi, hm, he⟩
    dsimp only at hGo hi hm he ⊢
    rcases Bool.eq_false_or_eq_true (decide ((i : Int) < ((Exp.ivs kids).length : Int))) with hc | hc
    · have hlt : i < kids.length := by have := of_decide_eq_true hc; omega
      obtain ⟨kid, hxk⟩ := at_lt hlt
      have hxi := ivs_at hxk
      have hcl := kid.cells_len
      have ihk := @ih kid (List.mem_of_getElem? hxk)
      have hle := (expR_le srcs names ahead kid (depth + 1) (60 - n - m)).2
      rw [expRs_drop srcs names ahead hxk] at he
      have hmu : kids.length - (i + 1) < kids.length - i := by omega
      obtain ⟨o', s', m', f', c', k'⟩ := kid
      refine AN ?_
      refine R.callBP rfl rfl rfl rfl rfl ((ihk (n := n + m) (depth := depth + 1) at_upd (by omega) (by omega) (by omega)).mono fun r hr => ?_)
      rw [show (60 : Int) - (n + m) = 60 - n - m by omega] at hr
      cases r with
      | pan u G' nx' =>
        obtain ⟨rfl, g1, g2, g3⟩ := hr
        rw [if_pos g1] at he
        exact bad he (by omega) fun q h4 h5 => (g3 q (by omega) h5).trans (Eq.trans at_upd (hfr q h4 h5))
      | ret v G' nx' =>
        obtain ⟨rfl, g1, g2, g3, g4⟩ := hr
        rw [if_neg (by omega)] at he
        refine AN ?_
        refine W.skipLop (i + 1, m + expR srcs names ahead (.mk o' s' m' f' c' k') (depth + 1) (60 - n - m)) hmu .auto ⟨by omega, ?_, fun q h4 h5 => (g4 q (by omega) h5).trans (Eq.trans at_upd (hfr q h4 h5)), hlt, ?_, he⟩
        · rw [g2, Int.add_assoc]
        · dsimp only
          have := hle g1
          omega
    · have hge : kids.length ≤ i := by have := of_decide_eq_false hc; omega
      rw [List.drop_eq_nil_of_le hge, expRs] at he
      rw [he]
      refine AN ?_
      exact W.skipFinP rfl ⟨rfl, by omega, hGo, by omega, hfr⟩
end Go.Abs
