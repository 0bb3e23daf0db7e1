/- The reference: names of definitions; the nodes of an expression; whether it looks ahead. -/
import Derived.Test.YtpkmljhdaijanaaPart9
open Go Go.Abs
namespace Go.Abs
set_option maxRecDepth 100000
set_option maxHeartbeats 4000000
instance fnis96 : FnIs CC 96 := ⟨rfl, fun _ => rfl⟩
instance fnis58 : FnIs CC 58 := ⟨rfl, fun _ => rfl⟩
instance fnis68 : FnIs CC 68 := ⟨rfl, fun _ => rfl⟩

def defNames (p : Pgm) : List Str := (p.defs.take 7).map Dfn.name

theorem at_map {α : Type} (f : α → IV) {l : List α} {i : Nat} {x : α} (h : l[i]? = some x) : (l.map f)[(i : Int).toNat]? = some (f x) := by
  rw [Int.toNat_natCast, List.getElem?_map, h]; rfl
theorem at_lt {α : Type} {l : List α} {i : Nat} (h : i < l.length) : ∃ x, l[i]? = some x := ⟨l[i], by simp [h]⟩
theorem Exp.cells_len (e : Exp) : e.iv.cells.length = 6 := by cases e; rfl
theorem Dfn.cells_len (d : Dfn) : d.iv.cells.length = 7 := by
  obtain ⟨n, ⟨op, name, m, fold, calcs, kids⟩⟩ := d; rfl

theorem ret96 (p : Pgm) (hp : p.defs.length ≤ 9223372036854775807) : Ret CC 96 [p.iv] (.lst ((defNames p).map sv)) := by
  obtain ⟨srcs, defs⟩ := p
  simp only at hp
  refine Ret.of (fn := Go.Proofs.Try.f96) (by kernel_rfl) rfl rfl ?_
  refine W.seq (W.region ?_)
  refine R.op1 (O.boxS (cs := [.imm (.lst (srcs.map sv)), .imm (.lst (defs.map Dfn.iv))]) rfl rfl rfl) rfl ?_
  refine SS ?_
  refine W.loop (X := Nat × AV) (fun x => [(1, .ptr (0 + 0) 0), (4, .imm (.int .i64 x.1)), (3, x.2)])
    (fun x nx G => G (0 + 0) = .box [.imm (.lst (srcs.map sv)), .imm (.lst (defs.map Dfn.iv))] false ∧ x.1 ≤ defs.length ∧ x.1 ≤ 7 ∧ 1 ≤ nx ∧ Own 9 1 1 nx (((defs.take x.1).map Dfn.name).map sv) G x.2) (fun x => 7 - x.1) (0, .nils)
    .auto ⟨rfl, Nat.zero_le _, by simp, by simp, .inl ⟨rfl, rfl⟩⟩ ?_
  rintro ⟨i, v⟩ nx G ⟨hB, hi, hi7, hnx, ho⟩
  dsimp only at hi hi7 ho ⊢
  refine SS ?_
  refine R.guardC1 rfl rfl rfl (fun h1 => ?_) (fun h1 => ?_)
  · have h1' : i < defs.length := by have := of_decide_eq_true h1; rw [List.length_map] at this; omega
    refine SS ?_
    refine W.cond rfl (fun h2 => ?_) (fun h2 => ?_)
    · have h2' : i < 7 := by have := of_decide_eq_true h2; omega
      obtain ⟨d, hx⟩ := at_lt h1'
      have hxi := at_map Dfn.iv hx
      have hdc := d.cells_len
      have htake : (defs.take (i + 1)).map Dfn.name = (defs.take i).map Dfn.name ++ [d.name] := by
        rw [List.take_add_one, hx]; simp
      refine SS ?_
      refine R.op1 (O.buildS (n := 1) (ke := ty9) (xs := [.imm (sv d.name)]) rfl rfl rfl (by decide) rfl rfl (by decide)) rfl ?_
      refine R.appOwn (lo := 1) (xs := ((defs.take i).map Dfn.name).map sv) (ys := [sv d.name]) rfl rfl rfl (ho.upd (by omega) (by omega)) rfl (by simp [elems, upd]) (by decide) (by decide) rfl (by simp [sv]; rfl) (by simp [most]; omega) ⟨by omega, by simp only [List.length_cons, List.length_nil]; omega⟩ rfl fun v' G' ho' hG' => ?_
      have hB' : G' (0 + 0) = .box [.imm (.lst (srcs.map sv)), .imm (.lst (defs.map Dfn.iv))] false := by rw [hG' (0 + 0) (by omega), upd_ne _ _ _ _ (by omega)]; exact hB
      refine SS ?_
      refine W.skipLop (i + 1, v') ?_ .auto ⟨hB', h1', h2', by omega, ?_⟩
      · show 7 - (i + 1) < 7 - i; omega
      · show Own 9 1 1 _ (((defs.take (i + 1)).map Dfn.name).map sv) G' v'
        rw [htake, List.map_append]
        exact ho'.up (by omega)
    · have h2' : i = 7 := by have := of_decide_eq_false h2; omega
      refine SS ?_
      refine W.retFin1 rfl ?_
      have := ho.peek (k := 99)
      subst h2'
      exact this
  · have h1' : defs.length ≤ i := by have := of_decide_eq_false h1; rw [List.length_map] at this; omega
    refine SS ?_
    refine W.retFin1 rfl ?_
    have := ho.peek (k := 99)
    have e : defNames ⟨srcs, defs⟩ = (defs.take i).map Dfn.name := by
      unfold defNames
      rw [List.take_of_length_le (show defs.length ≤ 7 by omega), List.take_of_length_le (show defs.length ≤ i by omega)]
    rw [e]
    exact this
end Go.Abs

/- The reference: the nodes of an expression; whether it looks ahead. -/
open Go Go.Abs
namespace Go.Abs
set_option maxRecDepth 100000
set_option maxHeartbeats 4000000

mutual
/-- The nodes of an expression, in order. -/
def allE : Exp → List Exp
  | .mk op name n fold calcs kids => .mk op name n fold calcs kids :: allEs kids
def allEs : List Exp → List Exp
  | [] => []
  | k :: r => allE k ++ allEs r
end
theorem allEs_take {kids : List Exp} {k : Exp} {i : Nat} (h : kids[i]? = some k) : allEs (kids.take (i + 1)) = allEs (kids.take i) ++ allE k := by
  induction kids generalizing i with
  | nil => simp at h
  | cons a r ih =>
    cases i with
    | zero => simp at h; subst h; simp [allEs]
    | succ i => simp only [List.getElem?_cons_succ] at h; simp only [List.take_succ_cons, allEs, ih h, List.append_assoc]
theorem allEs_len {kids : List Exp} : ∀ i, (allEs (kids.take i)).length ≤ (allEs kids).length := by
  induction kids with
  | nil => intro i; simp [allEs]
  | cons a r ih =>
    intro i
    cases i with
    | zero => simp [allEs]
    | succ i => simp only [List.take_succ_cons, allEs, List.length_append]; have := ih i; omega

theorem ivs_at {kids : List Exp} {k : Exp} {i : Nat} (h : kids[i]? = some k) : (Exp.ivs kids)[(i : Int).toNat]? = some k.iv := by
  rw [Exp.ivs_map]; exact at_map _ h
theorem ivs_len (kids : List Exp) : (Exp.ivs kids).length = kids.length := by rw [Exp.ivs_map, List.length_map]

theorem Exp.ivs_fits (l : List Exp) : ∀ y ∈ Exp.ivs l, (AV.imm y).fits 6 = true := by
  intro y hy
  rw [Exp.ivs_map] at hy
  obtain ⟨e, _, rfl⟩ := List.mem_map.1 hy
  cases e; rfl
theorem elems_imm (G : Nat → Obj) (xs : List IV) : elems G (.imm (.lst xs)) = some (xs.map .imm) := rfl

theorem ret58 {e : Exp} (hf : e.Fits) : (allE e).length ≤ 4294967296 → Ret CC 58 [e.iv] (.lst (Exp.ivs (allE e))) := by
  induction hf with
  | mk op name n fold calcs kids hn hw hc hk hcs hks ih =>
  intro hs
  have hk' : kids.length ≤ 9223372036854775807 := hk
  have hlv := ivs_len kids
  rw [allE] at hs
  simp only [List.length_cons] at hs
  refine Ret.of (fn := Go.Proofs.Try.f58) (by kernel_rfl) rfl rfl ?_
  refine W.seq (W.region ?_)
  refine R.op1 (O.boxS (cs := [.imm (.int .i64 op), .imm (sv name), .imm (.int .i64 n), .imm (.int .i64 fold), .imm (.lst (Trm.ivs calcs)), .imm (.lst (Exp.ivs kids))]) rfl rfl rfl) rfl ?_
  refine SS ?_
  refine R.op1 (O.buildS (xs := [.imm (Exp.mk op name n fold calcs kids).iv]) rfl rfl rfl (by decide) rfl rfl (by decide)) rfl ?_
  refine SS ?_
  refine W.loop (X := Nat × AV) (fun x => [(1, .ptr (0 + 0) 0), (4, .imm (.int .i64 x.1)), (3, x.2)])
    (fun x nx G => G (0 + 0) = .box [.imm (.int .i64 op), .imm (sv name), .imm (.int .i64 n), .imm (.int .i64 fold), .imm (.lst (Trm.ivs calcs)), .imm (.lst (Exp.ivs kids))] false ∧ x.1 ≤ kids.length ∧ 1 ≤ nx ∧ Own 59 6 1 nx (Exp.ivs (Exp.mk op name n fold calcs kids :: allEs (kids.take x.1))) G x.2) (fun x => kids.length - x.1) (0, _)
    .auto ⟨rfl, Nat.zero_le _, by simp, .inr ⟨_, ?_, ?_, rfl, rfl⟩⟩ ?_
  · decide
  · decide
  rintro ⟨i, v⟩ nx G ⟨hB, hi, hnx, ho⟩
  dsimp only at hi ho ⊢
  refine SS ?_
  refine W.cond rfl (fun h1 => ?_) (fun h1 => ?_)
  · have h1' : i < kids.length := by have := of_decide_eq_true h1; omega
    obtain ⟨k, hx⟩ := at_lt h1'
    have hxi := ivs_at hx
    have hkl := allEs_take hx
    have hle := allEs_len (kids := kids) (i + 1)
    have hll := congrArg List.length hkl
    rw [List.length_append] at hll
    have hr := ih k (List.mem_of_getElem? hx) (by omega)
    obtain ⟨o', s', n', f', c', k'⟩ := k
    refine SS ?_
    refine R.appOwn (lo := 1) (ys := Exp.ivs (allE (.mk o' s' n' f' c' k'))) rfl rfl rfl (ho.up (by omega)) rfl rfl (by decide) (by decide) rfl (Exp.ivs_fits _) ?_ ⟨by omega, by simp only [List.length_cons, List.length_nil]; omega⟩ rfl fun v' G' ho' hG' => ?_
    · rw [ivs_len, ivs_len, List.length_cons]; show _ ≤ 4294967296; omega
    have hB' := hG' (0 + 0) (by omega)
    rw [hB] at hB'
    refine SS ?_
    refine W.skipLop (i + 1, v') ?_ .auto ⟨hB', h1', by omega, ?_⟩
    · show kids.length - (i + 1) < kids.length - i; omega
    · show Own 59 6 1 _ (Exp.ivs (_ :: allEs (kids.take (i + 1)))) G' v'
      rw [hkl, Exp.ivs_map]
      rw [Exp.ivs_map, Exp.ivs_map, ← List.map_append] at ho'
      exact ho'.up (by omega)
  · have h1' : kids.length ≤ i := by have := of_decide_eq_false h1; omega
    refine SS ?_
    refine W.retFin1 rfl ?_
    have := ho.peek (k := 99)
    rw [List.take_of_length_le h1', ← allE] at this
    exact this
end Go.Abs

/- The reference: whether an expression looks ahead. -/
open Go Go.Abs
namespace Go.Abs
set_option maxRecDepth 100000
set_option maxHeartbeats 4000000

/-- A node that looks ahead. -/
def Exp.fore (x : Exp) : Bool := (x.op == 14) || ((x.op == 7) && decide (x.n < 0))
def aheadE (e : Exp) : Bool := (allE e).any Exp.fore

theorem any_take {α : Type} {p : α → Bool} {l : List α} {i : Nat} {x : α} (h : l[i]? = some x) (hi : (l.take i).any p = false) (hx : p x = false) : (l.take (i + 1)).any p = false := by
  rw [List.take_add_one, h, List.any_append, hi]; simp [hx]
theorem any_of_take {α : Type} {p : α → Bool} {l : List α} {i : Nat} (h : l.length ≤ i) (hi : (l.take i).any p = false) : l.any p = false := by
  rw [List.take_of_length_le h] at hi; exact hi
theorem any_at {α : Type} {p : α → Bool} {l : List α} {i : Nat} {x : α} (h : l[i]? = some x) (hx : p x = true) : l.any p = true :=
  List.any_eq_true.2 ⟨x, List.mem_of_getElem? h, hx⟩

theorem ret68 {e : Exp} (hf : e.Fits) (hs : (allE e).length ≤ 4294967296) : Ret CC 68 [e.iv] (.bool (aheadE e)) := by
  have hr58 := ret58 hf hs
  generalize hl : allE e = nodes at hr58 hs
  have hgoal : aheadE e = nodes.any Exp.fore := by unfold aheadE; rw [hl]
  rw [hgoal]
  clear hgoal hl hf
  obtain ⟨op, name, n, fold, calcs, kids⟩ := e
  have hlv := ivs_len nodes
  refine Ret.of (fn := Go.Proofs.Try.f68) (by kernel_rfl) rfl rfl ?_
  refine W.seq (W.region ?_)
  refine R.op1 (O.boxS (cs := [.imm (.int .i64 op), .imm (sv name), .imm (.int .i64 n), .imm (.int .i64 fold), .imm (.lst (Trm.ivs calcs)), .imm (.lst (Exp.ivs kids))]) rfl rfl rfl) rfl ?_
  refine SS ?_
  refine W.loop (X := Nat) (fun i => [(4, .imm (.int .i64 i)), (3, .imm (.lst (Exp.ivs nodes)))])
    (fun i nx G => i ≤ nodes.length ∧ (nodes.take i).any Exp.fore = false) (fun i => nodes.length - i) 0
    .auto ⟨Nat.zero_le _, rfl⟩ ?_
  rintro i nx G ⟨hi, ha⟩
  refine SS ?_
  refine W.cond rfl (fun h1 => ?_) (fun h1 => ?_)
  · have h1' : i < nodes.length := by have := of_decide_eq_true h1; omega
    obtain ⟨x, hx⟩ := at_lt h1'
    have hxi := ivs_at hx
    have next := fun h => any_take hx ha h
    have found := fun h => any_at (p := Exp.fore) hx h
    obtain ⟨o', s', n', f', c', k'⟩ := x
    rcases Bool.eq_false_or_eq_true (o' == 14) with hA | hA
    · refine SS ?_
      exact W.retFin1 rfl ⟨[], by rw [found (by show ((o' == 14) || _) = true; rw [hA]; rfl)]; rfl⟩
    · rcases Bool.eq_false_or_eq_true (o' == 7) with hB | hB
      · rcases Bool.eq_false_or_eq_true (decide (n' < 0)) with hC | hC
        · refine SS ?_
          exact W.retFin1 rfl ⟨[], by rw [found (by show ((o' == 14) || ((o' == 7) && decide (n' < 0))) = true; rw [hA, hB, hC]; rfl)]; rfl⟩
        · refine SS ?_
          refine W.skipLop (i + 1) ?_ .auto ⟨h1', next (by show ((o' == 14) || ((o' == 7) && decide (n' < 0))) = false; rw [hA, hB, hC]; rfl)⟩
          show nodes.length - (i + 1) < nodes.length - i; omega
      · refine SS ?_
        refine W.skipLop (i + 1) ?_ .auto ⟨h1', next (by show ((o' == 14) || ((o' == 7) && decide (n' < 0))) = false; rw [hA, hB]; rfl)⟩
        show nodes.length - (i + 1) < nodes.length - i; omega
  · have h1' : nodes.length ≤ i := by have := of_decide_eq_false h1; omega
    refine SS ?_
    exact W.retFin1 rfl ⟨[], by rw [any_of_take h1' ha]; rfl⟩
end Go.Abs

/- The reference: what expressions of a kind have; names of definitions; names that differ. -/
open Go Go.Abs
namespace Go.Abs
set_option maxRecDepth 100000
set_option maxHeartbeats 4000000
instance fnis105 : FnIs CC 105 := ⟨rfl, fun _ => rfl⟩
def ty142 : TyI := { d := TyD.st [(0, 1), (1, 1), (2, 1), (3, 1), (4, 1), (5, 1)], sz := 6, bytes := 40, zero := AV.imm (IV.agg [IV.int Go.IntKind.i64 (0), IV.int Go.IntKind.i64 (0), IV.bool Bool.false, IV.bool Bool.false, IV.int Go.IntKind.i64 (0), IV.int Go.IntKind.i64 (0)]) }
instance tyis142 : TyIs CC 142 ty142 := ⟨by kernel_rfl⟩

structure Shp where
  calcs : Nat
  kids : Nat
  name : Bool
  fold : Bool
  low : Int
  high : Int

def shpIV (s : Shp) : IV := .agg [.int .i64 s.calcs, .int .i64 s.kids, .bool s.name, .bool s.fold, .int .i64 s.low, .int .i64 s.high]

/-- What expressions of a kind have. -/
def shapeR (op : Int) : Option Shp :=
  if op = 1 ∨ op = 2 then some ⟨0, 0, true, false, 0, 0⟩
  else if op = 3 then some ⟨0, 0, true, false, 1, 50⟩
  else if op = 4 then some ⟨0, 2, false, false, 0, 0⟩
  else if op = 5 then some ⟨1, 1, false, false, 0, 0⟩
  else if op = 6 then some ⟨2, 1, false, false, 0, 0⟩
  else if op = 7 then some ⟨0, 1, false, false, -50, 50⟩
  else if op = 8 ∨ op = 11 then some ⟨0, 1, false, true, 1, 50⟩
  else if op = 9 then some ⟨0, 1, false, true, 0, 50⟩
  else if op = 10 then some ⟨0, 1, false, true, 0, 0⟩
  else if op = 12 then some ⟨1, 2, false, false, 0, 50⟩
  else if op = 13 then some ⟨1, 2, false, false, 0, 0⟩
  else if op = 14 then some ⟨0, 2, false, false, 0, 50⟩
  else if op = 15 then some ⟨0, 1, false, false, 0, 0⟩
  else none

def shpRes : Option Shp → IV
  | some s => .tup [shpIV s, .bool true]
  | none => .tup [shpIV ⟨0, 0, false, false, 0, 0⟩, .bool false]

theorem ops15 (op : Int) : op = 1 ∨ op = 2 ∨ op = 3 ∨ op = 4 ∨ op = 5 ∨ op = 6 ∨ op = 7 ∨ op = 8 ∨ op = 9 ∨ op = 10 ∨ op = 11 ∨ op = 12 ∨ op = 13 ∨ op = 14 ∨ op = 15 ∨
    (op ≠ 1 ∧ op ≠ 2 ∧ op ≠ 3 ∧ op ≠ 4 ∧ op ≠ 5 ∧ op ≠ 6 ∧ op ≠ 7 ∧ op ≠ 8 ∧ op ≠ 9 ∧ op ≠ 10 ∧ op ≠ 11 ∧ op ≠ 12 ∧ op ≠ 13 ∧ op ≠ 14 ∧ op ≠ 15) := by omega

theorem ret105 (op : Int) : Ret CC 105 [.int .i64 op] (shpRes (shapeR op)) := by
  rcases ops15 op with rfl | rfl | rfl | rfl | rfl | rfl | rfl | rfl | rfl | rfl | rfl | rfl | rfl | rfl | rfl | ⟨n1, n2, n3, n4, n5, n6, n7, n8, n9, n10, n11, n12, n13, n14, n15⟩
  iterate 15 exact Ret.reckon (n := 20) (by kernel_rfl)
  have hs : shapeR op = none := by unfold shapeR; simp [n1, n2, n3, n4, n5, n6, n7, n8, n9, n10, n11, n12, n13, n14, n15]
  rw [hs]
  have e1 : (op == 1) = false := by simpa using n1
  have e2 : (op == 2) = false := by simpa using n2
  have e3 : (op == 3) = false := by simpa using n3
  have e4 : (op == 4) = false := by simpa using n4
  have e5 : (op == 5) = false := by simpa using n5
  have e6 : (op == 6) = false := by simpa using n6
  have e7 : (op == 7) = false := by simpa using n7
  have e8 : (op == 8) = false := by simpa using n8
  have e9 : (op == 9) = false := by simpa using n9
  have e10 : (op == 10) = false := by simpa using n10
  have e11 : (op == 11) = false := by simpa using n11
  have e12 : (op == 12) = false := by simpa using n12
  have e13 : (op == 13) = false := by simpa using n13
  have e14 : (op == 14) = false := by simpa using n14
  have e15 : (op == 15) = false := by simpa using n15
  refine Ret.of (fn := Go.Proofs.Try.f105) (by kernel_rfl) rfl rfl ?_
  refine W.seq (W.region ?_)
  refine R.op1 (O.alloc (cs := [.imm (.int .i64 0), .imm (.int .i64 0), .imm (.bool false), .imm (.bool false), .imm (.int .i64 0), .imm (.int .i64 0)]) rfl rfl) rfl ?_
  (repeat (first | (apply R.op0; (first | exact O.move rfl | exact O.assign rfl | exact O.fieldP rfl rfl rfl rfl | exact O.loadP rfl rfl rfl (by first | rfl | assumption) rfl | exact O.cmp rfl rfl rfl | exact O.int rfl rfl (add64 (by omega)) | exact O.int rfl rfl (sub64 (by omega)) | exact O.int rfl rfl (add8 (by omega)) | exact O.pickT rfl (by first | with_reducible rfl | with_reducible assumption | decide) rfl | exact O.pickF rfl (by first | with_reducible rfl | with_reducible assumption | decide) rfl | exact O.lenL rfl rfl | exact O.lenSv rfl rfl | exact O.lenS rfl rfl | exact O.not rfl | exact O.svEq rfl rfl | exact O.svNe rfl rfl | exact O.str rfl rfl rfl | exact O.boolEq rfl rfl rfl | exact O.fieldE rfl rfl rfl rfl | exact O.fieldR rfl rfl rfl rfl | exact O.loadPA rfl rfl (by first | rfl | assumption) rfl rfl | exact O.extr rfl rfl); exact rfl) | (apply R.guardT1; exact rfl; exact rfl; (first | with_reducible rfl | with_reducible assumption | decide)) | (apply R.guardT0; exact rfl; exact rfl; (first | with_reducible rfl | with_reducible assumption | decide)) | (apply R.guardF1; exact rfl; exact rfl; (first | with_reducible rfl | with_reducible assumption | decide); exact rfl) | (apply R.guardF0; exact rfl; exact rfl; (first | with_reducible rfl | with_reducible assumption | decide); exact rfl) | (apply R.guardN; exact rfl; exact rfl; exact rfl) | apply R.done | apply W.seq | apply W.region | apply W.draw | apply W.block | (apply W.condT; exact rfl; (first | with_reducible rfl | with_reducible assumption | decide)) | (apply W.condF; exact rfl; (first | with_reducible rfl | with_reducible assumption | decide)) | apply W.retAft | apply W.retBlk | apply W.retLop | apply W.exitAft | apply W.exitLop | apply W.exitBlk | (apply W.exitBlkNe; exact rfl) | apply W.skipAft | apply W.skipBlk | apply W.retCut | apply W.exitCut | apply R.skip))
  refine R.op0 (O.build rfl rfl rfl rfl) rfl ?_
  refine R.opN1 (O.storeP rfl rfl rfl rfl rfl rfl) ?_
  (repeat (first | (apply R.op0; (first | exact O.move rfl | exact O.assign rfl | exact O.fieldP rfl rfl rfl rfl | exact O.loadP rfl rfl rfl (by first | rfl | assumption) rfl | exact O.cmp rfl rfl rfl | exact O.int rfl rfl (add64 (by omega)) | exact O.int rfl rfl (sub64 (by omega)) | exact O.int rfl rfl (add8 (by omega)) | exact O.pickT rfl (by first | with_reducible rfl | with_reducible assumption | decide) rfl | exact O.pickF rfl (by first | with_reducible rfl | with_reducible assumption | decide) rfl | exact O.lenL rfl rfl | exact O.lenSv rfl rfl | exact O.lenS rfl rfl | exact O.not rfl | exact O.svEq rfl rfl | exact O.svNe rfl rfl | exact O.str rfl rfl rfl | exact O.boolEq rfl rfl rfl | exact O.fieldE rfl rfl rfl rfl | exact O.fieldR rfl rfl rfl rfl | exact O.loadPA rfl rfl (by first | rfl | assumption) rfl rfl | exact O.extr rfl rfl); exact rfl) | (apply R.guardT1; exact rfl; exact rfl; (first | with_reducible rfl | with_reducible assumption | decide)) | (apply R.guardT0; exact rfl; exact rfl; (first | with_reducible rfl | with_reducible assumption | decide)) | (apply R.guardF1; exact rfl; exact rfl; (first | with_reducible rfl | with_reducible assumption | decide); exact rfl) | (apply R.guardF0; exact rfl; exact rfl; (first | with_reducible rfl | with_reducible assumption | decide); exact rfl) | (apply R.guardN; exact rfl; exact rfl; exact rfl) | apply R.done | apply W.seq | apply W.region | apply W.draw | apply W.block | (apply W.condT; exact rfl; (first | with_reducible rfl | with_reducible assumption | decide)) | (apply W.condF; exact rfl; (first | with_reducible rfl | with_reducible assumption | decide)) | apply W.retAft | apply W.retBlk | apply W.retLop | apply W.exitAft | apply W.exitLop | apply W.exitBlk | (apply W.exitBlkNe; exact rfl) | apply W.skipAft | apply W.skipBlk | apply W.retCut | apply W.exitCut | apply R.skip))
  exact W.retFinCT rfl rfl rfl rfl rfl ⟨[], rfl⟩

instance fnis97 : FnIs CC 97 := ⟨rfl, fun _ => rfl⟩

/-- Names, all different. -/
def diff (l : List Str) : Bool := (List.range l.length).all fun i => nameOk (l.getD i []) && !(l.take i).contains (l.getD i [])

theorem ret97 (l : List Str) (hl : l.length ≤ 9223372036854775807) (hs : ∀ s ∈ l, s.length ≤ 9223372036854775807) : Ret CC 97 [.lst (l.map sv)] (.bool (diff l)) := by
  refine Ret.of (fn := Go.Proofs.Try.f97) (by kernel_rfl) rfl rfl ?_
  (repeat (first | (apply R.op0; (first | exact O.move rfl | exact O.assign rfl | exact O.fieldP rfl rfl rfl rfl | exact O.loadP rfl rfl rfl (by first | rfl | assumption) rfl | exact O.cmp rfl rfl rfl | exact O.int rfl rfl (add64 (by omega)) | exact O.int rfl rfl (sub64 (by omega)) | exact O.int rfl rfl (add8 (by omega)) | exact O.pickT rfl (by first | with_reducible rfl | with_reducible assumption | decide) rfl | exact O.pickF rfl (by first | with_reducible rfl | with_reducible assumption | decide) rfl | exact O.lenL rfl rfl | exact O.lenSv rfl rfl | exact O.lenS rfl rfl | exact O.not rfl | exact O.svEq rfl rfl | exact O.svNe rfl rfl | exact O.str rfl rfl rfl | exact O.boolEq rfl rfl rfl | exact O.fieldE rfl rfl rfl rfl | exact O.fieldR rfl rfl rfl rfl | exact O.loadPA rfl rfl (by first | rfl | assumption) rfl rfl | exact O.extr rfl rfl); exact rfl) | (apply R.guardT1; exact rfl; exact rfl; (first | with_reducible rfl | with_reducible assumption | decide)) | (apply R.guardT0; exact rfl; exact rfl; (first | with_reducible rfl | with_reducible assumption | decide)) | (apply R.guardF1; exact rfl; exact rfl; (first | with_reducible rfl | with_reducible assumption | decide); exact rfl) | (apply R.guardF0; exact rfl; exact rfl; (first | with_reducible rfl | with_reducible assumption | decide); exact rfl) | (apply R.guardN; exact rfl; exact rfl; exact rfl) | apply R.done | apply W.seq | apply W.region | apply W.draw | apply W.block | (apply W.condT; exact rfl; (first | with_reducible rfl | with_reducible assumption | decide)) | (apply W.condF; exact rfl; (first | with_reducible rfl | with_reducible assumption | decide)) | apply W.retAft | apply W.retBlk | apply W.retLop | apply W.exitAft | apply W.exitLop | apply W.exitBlk | (apply W.exitBlkNe; exact rfl) | apply W.skipAft | apply W.skipBlk | apply W.retCut | apply W.exitCut | apply R.skip))
  refine W.loop (X := Nat) (fun i => [(0, .imm (.lst (l.map sv))), (3, .imm (.int .i64 i))]) (fun i _ _ => i ≤ l.length ∧ ∀ j, j < i → (nameOk (l.getD j []) && !(l.take j).contains (l.getD j [])) = true) (fun i => l.length - i) 0 (.cons rfl (.cons rfl (.nil _))) ⟨Nat.zero_le _, fun j hj => by omega⟩ ?_
  intro i nx G ⟨hi, he⟩
  (repeat (first | (apply R.op0; (first | exact O.move rfl | exact O.assign rfl | exact O.fieldP rfl rfl rfl rfl | exact O.loadP rfl rfl rfl (by first | rfl | assumption) rfl | exact O.cmp rfl rfl rfl | exact O.int rfl rfl (add64 (by omega)) | exact O.int rfl rfl (sub64 (by omega)) | exact O.int rfl rfl (add8 (by omega)) | exact O.pickT rfl (by first | with_reducible rfl | with_reducible assumption | decide) rfl | exact O.pickF rfl (by first | with_reducible rfl | with_reducible assumption | decide) rfl | exact O.lenL rfl rfl | exact O.lenSv rfl rfl | exact O.lenS rfl rfl | exact O.not rfl | exact O.svEq rfl rfl | exact O.svNe rfl rfl | exact O.str rfl rfl rfl | exact O.boolEq rfl rfl rfl | exact O.fieldE rfl rfl rfl rfl | exact O.fieldR rfl rfl rfl rfl | exact O.loadPA rfl rfl (by first | rfl | assumption) rfl rfl | exact O.extr rfl rfl); exact rfl) | (apply R.guardT1; exact rfl; exact rfl; (first | with_reducible rfl | with_reducible assumption | decide)) | (apply R.guardT0; exact rfl; exact rfl; (first | with_reducible rfl | with_reducible assumption | decide)) | (apply R.guardF1; exact rfl; exact rfl; (first | with_reducible rfl | with_reducible assumption | decide); exact rfl) | (apply R.guardF0; exact rfl; exact rfl; (first | with_reducible rfl | with_reducible assumption | decide); exact rfl) | (apply R.guardN; exact rfl; exact rfl; exact rfl) | apply R.done | apply W.seq | apply W.region | apply W.draw | apply W.block | (apply W.condT; exact rfl; (first | with_reducible rfl | with_reducible assumption | decide)) | (apply W.condF; exact rfl; (first | with_reducible rfl | with_reducible assumption | decide)) | apply W.retAft | apply W.retBlk | apply W.retLop | apply W.exitAft | apply W.exitLop | apply W.exitBlk | (apply W.exitBlkNe; exact rfl) | apply W.skipAft | apply W.skipBlk | apply W.retCut | apply W.exitCut | apply R.skip))
  refine W.cond rfl (fun hc => ?_) (fun hc => ?_)
  · have hlt : i < l.length := by have := of_decide_eq_true hc; rw [List.length_map] at this; omega
    obtain ⟨x, hx⟩ : ∃ x, l[i]? = some x := ⟨l[i], by simp [hlt]⟩
    have hxd : l.getD i [] = x := by rw [List.getD_eq_getElem?_getD, hx]; rfl
    have hxs := hs x (List.mem_of_getElem? hx)
    have bad : (nameOk x && !(l.take i).contains x) = false → diff l = false := fun h => by
      unfold diff
      rw [List.all_eq_false]
      exact ⟨i, by simpa using hlt, by rw [hxd, h]; simp⟩
    have e : ((l.map sv).take i).drop 0 = (l.take i).map sv := by simp
    have hxm : (l.map sv)[(i : Int).toNat]? = some (sv x) := by simp [hx]
    have hr11 := ret11 x hxs
    have hr39 : Ret CC 39 [.lst (((l.map sv).take i).drop 0), sv x] (.bool ((l.take i).contains x)) := by rw [e]; exact ret39 _ _ (by simp; omega)
    have hall : (l.map sv).all (fun y => y.cells.length == ty9.sz) = true := by
      rw [List.all_eq_true]
      intro y hy
      obtain ⟨z, _, rfl⟩ := List.mem_map.1 hy
      rfl
    have hb : boundE [(18, .imm (.int .i64 (i : Int)))] (l.map sv).length (l.map sv).length (some (.tmp 18)) = some i := by
      show (if (0 : Int) ≤ i ∧ (i : Int) ≤ ((l.map sv).length : Nat) then some (i : Int).toNat else none) = some i
      rw [if_pos ⟨by omega, by rw [List.length_map]; omega⟩, Int.toNat_natCast]
    cases hN : nameOk x with
    | false =>
      rw [hN] at hr11
      (repeat (first | (apply R.op0; (first | exact O.move rfl | exact O.assign rfl | exact O.fieldP rfl rfl rfl rfl | exact O.loadP rfl rfl rfl (by first | rfl | assumption) rfl | exact O.cmp rfl rfl rfl | exact O.int rfl rfl (add64 (by omega)) | exact O.int rfl rfl (sub64 (by omega)) | exact O.int rfl rfl (add8 (by omega)) | exact O.pickT rfl (by first | with_reducible rfl | with_reducible assumption | decide) rfl | exact O.pickF rfl (by first | with_reducible rfl | with_reducible assumption | decide) rfl | exact O.lenL rfl rfl | exact O.lenSv rfl rfl | exact O.lenS rfl rfl | exact O.not rfl | exact O.svEq rfl rfl | exact O.svNe rfl rfl | exact O.str rfl rfl rfl | exact O.boolEq rfl rfl rfl | exact O.fieldE rfl rfl rfl rfl | exact O.fieldR rfl rfl rfl rfl | exact O.loadPA rfl rfl (by first | rfl | assumption) rfl rfl | exact O.extr rfl rfl); exact rfl) | (apply R.guardT1; exact rfl; exact rfl; (first | with_reducible rfl | with_reducible assumption | decide)) | (apply R.guardT0; exact rfl; exact rfl; (first | with_reducible rfl | with_reducible assumption | decide)) | (apply R.guardF1; exact rfl; exact rfl; (first | with_reducible rfl | with_reducible assumption | decide); exact rfl) | (apply R.guardF0; exact rfl; exact rfl; (first | with_reducible rfl | with_reducible assumption | decide); exact rfl) | (apply R.guardN; exact rfl; exact rfl; exact rfl) | apply R.done | apply W.seq | apply W.region | apply W.draw | apply W.block | (apply W.condT; exact rfl; (first | with_reducible rfl | with_reducible assumption | decide)) | (apply W.condF; exact rfl; (first | with_reducible rfl | with_reducible assumption | decide)) | apply W.retAft | apply W.retBlk | apply W.retLop | apply W.exitAft | apply W.exitLop | apply W.exitBlk | (apply W.exitBlkNe; exact rfl) | apply W.skipAft | apply W.skipBlk | apply W.retCut | apply W.exitCut | apply R.skip))
      (repeat (first | (apply D.op0; (first | exact O.move rfl | exact O.assign rfl | exact O.fieldP rfl rfl rfl rfl | exact O.loadP rfl rfl rfl (by first | rfl | assumption) rfl | exact O.cmp rfl rfl rfl | exact O.int rfl rfl (add64 (by omega)) | exact O.int rfl rfl (sub64 (by omega)) | exact O.int rfl rfl (add8 (by omega)) | exact O.pickT rfl (by first | with_reducible rfl | with_reducible assumption | decide) rfl | exact O.pickF rfl (by first | with_reducible rfl | with_reducible assumption | decide) rfl | exact O.lenL rfl rfl | exact O.lenSv rfl rfl | exact O.lenS rfl rfl | exact O.not rfl | exact O.svEq rfl rfl | exact O.svNe rfl rfl | exact O.str rfl rfl rfl | exact O.boolEq rfl rfl rfl | exact O.fieldE rfl rfl rfl rfl | exact O.fieldR rfl rfl rfl rfl | exact O.loadPA rfl rfl (by first | rfl | assumption) rfl rfl | exact O.extr rfl rfl); exact rfl; exact rfl) | (apply D.guardT1; exact rfl; exact rfl; (first | with_reducible rfl | with_reducible assumption | decide)) | (apply D.guardT0; exact rfl; exact rfl; (first | with_reducible rfl | with_reducible assumption | decide)) | (apply D.guardF1; exact rfl; exact rfl; (first | with_reducible rfl | with_reducible assumption | decide); exact rfl) | (apply D.guardF0; exact rfl; exact rfl; (first | with_reducible rfl | with_reducible assumption | decide); exact rfl) | (apply D.guardN; exact rfl; exact rfl; exact rfl)))
      refine D.op0 (O.addrL (u := sv x) rfl rfl rfl (by omega) hxm rfl) rfl rfl ?_
      refine D.op0 (O.load1 (u := sv x) rfl hxm rfl rfl rfl) rfl rfl ?_
      refine D.op0 (O.call rfl rfl hr11) rfl rfl ?_
      (repeat (first | (apply D.op0; (first | exact O.move rfl | exact O.assign rfl | exact O.fieldP rfl rfl rfl rfl | exact O.loadP rfl rfl rfl (by first | rfl | assumption) rfl | exact O.cmp rfl rfl rfl | exact O.int rfl rfl (add64 (by omega)) | exact O.int rfl rfl (sub64 (by omega)) | exact O.int rfl rfl (add8 (by omega)) | exact O.pickT rfl (by first | with_reducible rfl | with_reducible assumption | decide) rfl | exact O.pickF rfl (by first | with_reducible rfl | with_reducible assumption | decide) rfl | exact O.lenL rfl rfl | exact O.lenSv rfl rfl | exact O.lenS rfl rfl | exact O.not rfl | exact O.svEq rfl rfl | exact O.svNe rfl rfl | exact O.str rfl rfl rfl | exact O.boolEq rfl rfl rfl | exact O.fieldE rfl rfl rfl rfl | exact O.fieldR rfl rfl rfl rfl | exact O.loadPA rfl rfl (by first | rfl | assumption) rfl rfl | exact O.extr rfl rfl); exact rfl; exact rfl) | (apply D.guardT1; exact rfl; exact rfl; (first | with_reducible rfl | with_reducible assumption | decide)) | (apply D.guardT0; exact rfl; exact rfl; (first | with_reducible rfl | with_reducible assumption | decide)) | (apply D.guardF1; exact rfl; exact rfl; (first | with_reducible rfl | with_reducible assumption | decide); exact rfl) | (apply D.guardF0; exact rfl; exact rfl; (first | with_reducible rfl | with_reducible assumption | decide); exact rfl) | (apply D.guardN; exact rfl; exact rfl; exact rfl)))
      refine D.done (by kernel_rfl) ?_
      (repeat (first | (apply R.op0; (first | exact O.move rfl | exact O.assign rfl | exact O.fieldP rfl rfl rfl rfl | exact O.loadP rfl rfl rfl (by first | rfl | assumption) rfl | exact O.cmp rfl rfl rfl | exact O.int rfl rfl (add64 (by omega)) | exact O.int rfl rfl (sub64 (by omega)) | exact O.int rfl rfl (add8 (by omega)) | exact O.pickT rfl (by first | with_reducible rfl | with_reducible assumption | decide) rfl | exact O.pickF rfl (by first | with_reducible rfl | with_reducible assumption | decide) rfl | exact O.lenL rfl rfl | exact O.lenSv rfl rfl | exact O.lenS rfl rfl | exact O.not rfl | exact O.svEq rfl rfl | exact O.svNe rfl rfl | exact O.str rfl rfl rfl | exact O.boolEq rfl rfl rfl | exact O.fieldE rfl rfl rfl rfl | exact O.fieldR rfl rfl rfl rfl | exact O.loadPA rfl rfl (by first | rfl | assumption) rfl rfl | exact O.extr rfl rfl); exact rfl) | (apply R.guardT1; exact rfl; exact rfl; (first | with_reducible rfl | with_reducible assumption | decide)) | (apply R.guardT0; exact rfl; exact rfl; (first | with_reducible rfl | with_reducible assumption | decide)) | (apply R.guardF1; exact rfl; exact rfl; (first | with_reducible rfl | with_reducible assumption | decide); exact rfl) | (apply R.guardF0; exact rfl; exact rfl; (first | with_reducible rfl | with_reducible assumption | decide); exact rfl) | (apply R.guardN; exact rfl; exact rfl; exact rfl) | apply R.done | apply W.seq | apply W.region | apply W.draw | apply W.block | (apply W.condT; exact rfl; (first | with_reducible rfl | with_reducible assumption | decide)) | (apply W.condF; exact rfl; (first | with_reducible rfl | with_reducible assumption | decide)) | apply W.retAft | apply W.retBlk | apply W.retLop | apply W.exitAft | apply W.exitLop | apply W.exitBlk | (apply W.exitBlkNe; exact rfl) | apply W.skipAft | apply W.skipBlk | apply W.retCut | apply W.exitCut | apply R.skip))
      exact W.retFin1 rfl ⟨[], by rw [bad (by rw [hN]; rfl)]; rfl⟩
    | true =>
      rw [hN] at hr11
      cases hC : (l.take i).contains x with
      | true =>
        rw [hC] at hr39
        (repeat (first | (apply R.op0; (first | exact O.move rfl | exact O.assign rfl | exact O.fieldP rfl rfl rfl rfl | exact O.loadP rfl rfl rfl (by first | rfl | assumption) rfl | exact O.cmp rfl rfl rfl | exact O.int rfl rfl (add64 (by omega)) | exact O.int rfl rfl (sub64 (by omega)) | exact O.int rfl rfl (add8 (by omega)) | exact O.pickT rfl (by first | with_reducible rfl | with_reducible assumption | decide) rfl | exact O.pickF rfl (by first | with_reducible rfl | with_reducible assumption | decide) rfl | exact O.lenL rfl rfl | exact O.lenSv rfl rfl | exact O.lenS rfl rfl | exact O.not rfl | exact O.svEq rfl rfl | exact O.svNe rfl rfl | exact O.str rfl rfl rfl | exact O.boolEq rfl rfl rfl | exact O.fieldE rfl rfl rfl rfl | exact O.fieldR rfl rfl rfl rfl | exact O.loadPA rfl rfl (by first | rfl | assumption) rfl rfl | exact O.extr rfl rfl); exact rfl) | (apply R.guardT1; exact rfl; exact rfl; (first | with_reducible rfl | with_reducible assumption | decide)) | (apply R.guardT0; exact rfl; exact rfl; (first | with_reducible rfl | with_reducible assumption | decide)) | (apply R.guardF1; exact rfl; exact rfl; (first | with_reducible rfl | with_reducible assumption | decide); exact rfl) | (apply R.guardF0; exact rfl; exact rfl; (first | with_reducible rfl | with_reducible assumption | decide); exact rfl) | (apply R.guardN; exact rfl; exact rfl; exact rfl) | apply R.done | apply W.seq | apply W.region | apply W.draw | apply W.block | (apply W.condT; exact rfl; (first | with_reducible rfl | with_reducible assumption | decide)) | (apply W.condF; exact rfl; (first | with_reducible rfl | with_reducible assumption | decide)) | apply W.retAft | apply W.retBlk | apply W.retLop | apply W.exitAft | apply W.exitLop | apply W.exitBlk | (apply W.exitBlkNe; exact rfl) | apply W.skipAft | apply W.skipBlk | apply W.retCut | apply W.exitCut | apply R.skip))
        (repeat (first | (apply D.op0; (first | exact O.move rfl | exact O.assign rfl | exact O.fieldP rfl rfl rfl rfl | exact O.loadP rfl rfl rfl (by first | rfl | assumption) rfl | exact O.cmp rfl rfl rfl | exact O.int rfl rfl (add64 (by omega)) | exact O.int rfl rfl (sub64 (by omega)) | exact O.int rfl rfl (add8 (by omega)) | exact O.pickT rfl (by first | with_reducible rfl | with_reducible assumption | decide) rfl | exact O.pickF rfl (by first | with_reducible rfl | with_reducible assumption | decide) rfl | exact O.lenL rfl rfl | exact O.lenSv rfl rfl | exact O.lenS rfl rfl | exact O.not rfl | exact O.svEq rfl rfl | exact O.svNe rfl rfl | exact O.str rfl rfl rfl | exact O.boolEq rfl rfl rfl | exact O.fieldE rfl rfl rfl rfl | exact O.fieldR rfl rfl rfl rfl | exact O.loadPA rfl rfl (by first | rfl | assumption) rfl rfl | exact O.extr rfl rfl); exact rfl; exact rfl) | (apply D.guardT1; exact rfl; exact rfl; (first | with_reducible rfl | with_reducible assumption | decide)) | (apply D.guardT0; exact rfl; exact rfl; (first | with_reducible rfl | with_reducible assumption | decide)) | (apply D.guardF1; exact rfl; exact rfl; (first | with_reducible rfl | with_reducible assumption | decide); exact rfl) | (apply D.guardF0; exact rfl; exact rfl; (first | with_reducible rfl | with_reducible assumption | decide); exact rfl) | (apply D.guardN; exact rfl; exact rfl; exact rfl)))
        refine D.op0 (O.addrL (u := sv x) rfl rfl rfl (by omega) hxm rfl) rfl rfl ?_
        refine D.op0 (O.load1 (u := sv x) rfl hxm rfl rfl rfl) rfl rfl ?_
        refine D.op0 (O.call rfl rfl hr11) rfl rfl ?_
        (repeat (first | (apply D.op0; (first | exact O.move rfl | exact O.assign rfl | exact O.fieldP rfl rfl rfl rfl | exact O.loadP rfl rfl rfl (by first | rfl | assumption) rfl | exact O.cmp rfl rfl rfl | exact O.int rfl rfl (add64 (by omega)) | exact O.int rfl rfl (sub64 (by omega)) | exact O.int rfl rfl (add8 (by omega)) | exact O.pickT rfl (by first | with_reducible rfl | with_reducible assumption | decide) rfl | exact O.pickF rfl (by first | with_reducible rfl | with_reducible assumption | decide) rfl | exact O.lenL rfl rfl | exact O.lenSv rfl rfl | exact O.lenS rfl rfl | exact O.not rfl | exact O.svEq rfl rfl | exact O.svNe rfl rfl | exact O.str rfl rfl rfl | exact O.boolEq rfl rfl rfl | exact O.fieldE rfl rfl rfl rfl | exact O.fieldR rfl rfl rfl rfl | exact O.loadPA rfl rfl (by first | rfl | assumption) rfl rfl | exact O.extr rfl rfl); exact rfl; exact rfl) | (apply D.guardT1; exact rfl; exact rfl; (first | with_reducible rfl | with_reducible assumption | decide)) | (apply D.guardT0; exact rfl; exact rfl; (first | with_reducible rfl | with_reducible assumption | decide)) | (apply D.guardF1; exact rfl; exact rfl; (first | with_reducible rfl | with_reducible assumption | decide); exact rfl) | (apply D.guardF0; exact rfl; exact rfl; (first | with_reducible rfl | with_reducible assumption | decide); exact rfl) | (apply D.guardN; exact rfl; exact rfl; exact rfl)))
        refine D.op0 (O.sliceL (a := 0) rfl rfl hb rfl hall) rfl rfl ?_
        (repeat (first | (apply D.op0; (first | exact O.move rfl | exact O.assign rfl | exact O.fieldP rfl rfl rfl rfl | exact O.loadP rfl rfl rfl (by first | rfl | assumption) rfl | exact O.cmp rfl rfl rfl | exact O.int rfl rfl (add64 (by omega)) | exact O.int rfl rfl (sub64 (by omega)) | exact O.int rfl rfl (add8 (by omega)) | exact O.pickT rfl (by first | with_reducible rfl | with_reducible assumption | decide) rfl | exact O.pickF rfl (by first | with_reducible rfl | with_reducible assumption | decide) rfl | exact O.lenL rfl rfl | exact O.lenSv rfl rfl | exact O.lenS rfl rfl | exact O.not rfl | exact O.svEq rfl rfl | exact O.svNe rfl rfl | exact O.str rfl rfl rfl | exact O.boolEq rfl rfl rfl | exact O.fieldE rfl rfl rfl rfl | exact O.fieldR rfl rfl rfl rfl | exact O.loadPA rfl rfl (by first | rfl | assumption) rfl rfl | exact O.extr rfl rfl); exact rfl; exact rfl) | (apply D.guardT1; exact rfl; exact rfl; (first | with_reducible rfl | with_reducible assumption | decide)) | (apply D.guardT0; exact rfl; exact rfl; (first | with_reducible rfl | with_reducible assumption | decide)) | (apply D.guardF1; exact rfl; exact rfl; (first | with_reducible rfl | with_reducible assumption | decide); exact rfl) | (apply D.guardF0; exact rfl; exact rfl; (first | with_reducible rfl | with_reducible assumption | decide); exact rfl) | (apply D.guardN; exact rfl; exact rfl; exact rfl)))
        refine D.op0 (O.addrL (u := sv x) rfl rfl rfl (by omega) hxm rfl) rfl rfl ?_
        (repeat (first | (apply D.op0; (first | exact O.move rfl | exact O.assign rfl | exact O.fieldP rfl rfl rfl rfl | exact O.loadP rfl rfl rfl (by first | rfl | assumption) rfl | exact O.cmp rfl rfl rfl | exact O.int rfl rfl (add64 (by omega)) | exact O.int rfl rfl (sub64 (by omega)) | exact O.int rfl rfl (add8 (by omega)) | exact O.pickT rfl (by first | with_reducible rfl | with_reducible assumption | decide) rfl | exact O.pickF rfl (by first | with_reducible rfl | with_reducible assumption | decide) rfl | exact O.lenL rfl rfl | exact O.lenSv rfl rfl | exact O.lenS rfl rfl | exact O.not rfl | exact O.svEq rfl rfl | exact O.svNe rfl rfl | exact O.str rfl rfl rfl | exact O.boolEq rfl rfl rfl | exact O.fieldE rfl rfl rfl rfl | exact O.fieldR rfl rfl rfl rfl | exact O.loadPA rfl rfl (by first | rfl | assumption) rfl rfl | exact O.extr rfl rfl); exact rfl; exact rfl) | (apply D.guardT1; exact rfl; exact rfl; (first | with_reducible rfl | with_reducible assumption | decide)) | (apply D.guardT0; exact rfl; exact rfl; (first | with_reducible rfl | with_reducible assumption | decide)) | (apply D.guardF1; exact rfl; exact rfl; (first | with_reducible rfl | with_reducible assumption | decide); exact rfl) | (apply D.guardF0; exact rfl; exact rfl; (first | with_reducible rfl | with_reducible assumption | decide); exact rfl) | (apply D.guardN; exact rfl; exact rfl; exact rfl)))
        refine D.op0 (O.load1 (u := sv x) rfl hxm rfl rfl rfl) rfl rfl ?_
        (repeat (first | (apply D.op0; (first | exact O.move rfl | exact O.assign rfl | exact O.fieldP rfl rfl rfl rfl | exact O.loadP rfl rfl rfl (by first | rfl | assumption) rfl | exact O.cmp rfl rfl rfl | exact O.int rfl rfl (add64 (by omega)) | exact O.int rfl rfl (sub64 (by omega)) | exact O.int rfl rfl (add8 (by omega)) | exact O.pickT rfl (by first | with_reducible rfl | with_reducible assumption | decide) rfl | exact O.pickF rfl (by first | with_reducible rfl | with_reducible assumption | decide) rfl | exact O.lenL rfl rfl | exact O.lenSv rfl rfl | exact O.lenS rfl rfl | exact O.not rfl | exact O.svEq rfl rfl | exact O.svNe rfl rfl | exact O.str rfl rfl rfl | exact O.boolEq rfl rfl rfl | exact O.fieldE rfl rfl rfl rfl | exact O.fieldR rfl rfl rfl rfl | exact O.loadPA rfl rfl (by first | rfl | assumption) rfl rfl | exact O.extr rfl rfl); exact rfl; exact rfl) | (apply D.guardT1; exact rfl; exact rfl; (first | with_reducible rfl | with_reducible assumption | decide)) | (apply D.guardT0; exact rfl; exact rfl; (first | with_reducible rfl | with_reducible assumption | decide)) | (apply D.guardF1; exact rfl; exact rfl; (first | with_reducible rfl | with_reducible assumption | decide); exact rfl) | (apply D.guardF0; exact rfl; exact rfl; (first | with_reducible rfl | with_reducible assumption | decide); exact rfl) | (apply D.guardN; exact rfl; exact rfl; exact rfl)))
        refine D.op0 (O.call rfl rfl hr39) rfl rfl ?_
        (repeat (first | (apply D.op0; (first | exact O.move rfl | exact O.assign rfl | exact O.fieldP rfl rfl rfl rfl | exact O.loadP rfl rfl rfl (by first | rfl | assumption) rfl | exact O.cmp rfl rfl rfl | exact O.int rfl rfl (add64 (by omega)) | exact O.int rfl rfl (sub64 (by omega)) | exact O.int rfl rfl (add8 (by omega)) | exact O.pickT rfl (by first | with_reducible rfl | with_reducible assumption | decide) rfl | exact O.pickF rfl (by first | with_reducible rfl | with_reducible assumption | decide) rfl | exact O.lenL rfl rfl | exact O.lenSv rfl rfl | exact O.lenS rfl rfl | exact O.not rfl | exact O.svEq rfl rfl | exact O.svNe rfl rfl | exact O.str rfl rfl rfl | exact O.boolEq rfl rfl rfl | exact O.fieldE rfl rfl rfl rfl | exact O.fieldR rfl rfl rfl rfl | exact O.loadPA rfl rfl (by first | rfl | assumption) rfl rfl | exact O.extr rfl rfl); exact rfl; exact rfl) | (apply D.guardT1; exact rfl; exact rfl; (first | with_reducible rfl | with_reducible assumption | decide)) | (apply D.guardT0; exact rfl; exact rfl; (first | with_reducible rfl | with_reducible assumption | decide)) | (apply D.guardF1; exact rfl; exact rfl; (first | with_reducible rfl | with_reducible assumption | decide); exact rfl) | (apply D.guardF0; exact rfl; exact rfl; (first | with_reducible rfl | with_reducible assumption | decide); exact rfl) | (apply D.guardN; exact rfl; exact rfl; exact rfl)))
        refine D.done (by kernel_rfl) ?_
        (repeat (first | (apply R.op0; (first | exact O.move rfl | exact O.assign rfl | exact O.fieldP rfl rfl rfl rfl | exact O.loadP rfl rfl rfl (by first | rfl | assumption) rfl | exact O.cmp rfl rfl rfl | exact O.int rfl rfl (add64 (by omega)) | exact O.int rfl rfl (sub64 (by omega)) | exact O.int rfl rfl (add8 (by omega)) | exact O.pickT rfl (by first | with_reducible rfl | with_reducible assumption | decide) rfl | exact O.pickF rfl (by first | with_reducible rfl | with_reducible assumption | decide) rfl | exact O.lenL rfl rfl | exact O.lenSv rfl rfl | exact O.lenS rfl rfl | exact O.not rfl | exact O.svEq rfl rfl | exact O.svNe rfl rfl | exact O.str rfl rfl rfl | exact O.boolEq rfl rfl rfl | exact O.fieldE rfl rfl rfl rfl | exact O.fieldR rfl rfl rfl rfl | exact O.loadPA rfl rfl (by first | rfl | assumption) rfl rfl | exact O.extr rfl rfl); exact rfl) | (apply R.guardT1; exact rfl; exact rfl; (first | with_reducible rfl | with_reducible assumption | decide)) | (apply R.guardT0; exact rfl; exact rfl; (first | with_reducible rfl | with_reducible assumption | decide)) | (apply R.guardF1; exact rfl; exact rfl; (first | with_reducible rfl | with_reducible assumption | decide); exact rfl) | (apply R.guardF0; exact rfl; exact rfl; (first | with_reducible rfl | with_reducible assumption | decide); exact rfl) | (apply R.guardN; exact rfl; exact rfl; exact rfl) | apply R.done | apply W.seq | apply W.region | apply W.draw | apply W.block | (apply W.condT; exact rfl; (first | with_reducible rfl | with_reducible assumption | decide)) | (apply W.condF; exact rfl; (first | with_reducible rfl | with_reducible assumption | decide)) | apply W.retAft | apply W.retBlk | apply W.retLop | apply W.exitAft | apply W.exitLop | apply W.exitBlk | (apply W.exitBlkNe; exact rfl) | apply W.skipAft | apply W.skipBlk | apply W.retCut | apply W.exitCut | apply R.skip))
        exact W.retFin1 rfl ⟨[], by rw [bad (by rw [hC]; simp)]; rfl⟩
      | false =>
        rw [hC] at hr39
        (repeat (first | (apply R.op0; (first | exact O.move rfl | exact O.assign rfl | exact O.fieldP rfl rfl rfl rfl | exact O.loadP rfl rfl rfl (by first | rfl | assumption) rfl | exact O.cmp rfl rfl rfl | exact O.int rfl rfl (add64 (by omega)) | exact O.int rfl rfl (sub64 (by omega)) | exact O.int rfl rfl (add8 (by omega)) | exact O.pickT rfl (by first | with_reducible rfl | with_reducible assumption | decide) rfl | exact O.pickF rfl (by first | with_reducible rfl | with_reducible assumption | decide) rfl | exact O.lenL rfl rfl | exact O.lenSv rfl rfl | exact O.lenS rfl rfl | exact O.not rfl | exact O.svEq rfl rfl | exact O.svNe rfl rfl | exact O.str rfl rfl rfl | exact O.boolEq rfl rfl rfl | exact O.fieldE rfl rfl rfl rfl | exact O.fieldR rfl rfl rfl rfl | exact O.loadPA rfl rfl (by first | rfl | assumption) rfl rfl | exact O.extr rfl rfl); exact rfl) | (apply R.guardT1; exact rfl; exact rfl; (first | with_reducible rfl | with_reducible assumption | decide)) | (apply R.guardT0; exact rfl; exact rfl; (first | with_reducible rfl | with_reducible assumption | decide)) | (apply R.guardF1; exact rfl; exact rfl; (first | with_reducible rfl | with_reducible assumption | decide); exact rfl) | (apply R.guardF0; exact rfl; exact rfl; (first | with_reducible rfl | with_reducible assumption | decide); exact rfl) | (apply R.guardN; exact rfl; exact rfl; exact rfl) | apply R.done | apply W.seq | apply W.region | apply W.draw | apply W.block | (apply W.condT; exact rfl; (first | with_reducible rfl | with_reducible assumption | decide)) | (apply W.condF; exact rfl; (first | with_reducible rfl | with_reducible assumption | decide)) | apply W.retAft | apply W.retBlk | apply W.retLop | apply W.exitAft | apply W.exitLop | apply W.exitBlk | (apply W.exitBlkNe; exact rfl) | apply W.skipAft | apply W.skipBlk | apply W.retCut | apply W.exitCut | apply R.skip))
        (repeat (first | (apply D.op0; (first | exact O.move rfl | exact O.assign rfl | exact O.fieldP rfl rfl rfl rfl | exact O.loadP rfl rfl rfl (by first | rfl | assumption) rfl | exact O.cmp rfl rfl rfl | exact O.int rfl rfl (add64 (by omega)) | exact O.int rfl rfl (sub64 (by omega)) | exact O.int rfl rfl (add8 (by omega)) | exact O.pickT rfl (by first | with_reducible rfl | with_reducible assumption | decide) rfl | exact O.pickF rfl (by first | with_reducible rfl | with_reducible assumption | decide) rfl | exact O.lenL rfl rfl | exact O.lenSv rfl rfl | exact O.lenS rfl rfl | exact O.not rfl | exact O.svEq rfl rfl | exact O.svNe rfl rfl | exact O.str rfl rfl rfl | exact O.boolEq rfl rfl rfl | exact O.fieldE rfl rfl rfl rfl | exact O.fieldR rfl rfl rfl rfl | exact O.loadPA rfl rfl (by first | rfl | assumption) rfl rfl | exact O.extr rfl rfl); exact rfl; exact rfl) | (apply D.guardT1; exact rfl; exact rfl; (first | with_reducible rfl | with_reducible assumption | decide)) | (apply D.guardT0; exact rfl; exact rfl; (first | with_reducible rfl | with_reducible assumption | decide)) | (apply D.guardF1; exact rfl; exact rfl; (first | with_reducible rfl | with_reducible assumption | decide); exact rfl) | (apply D.guardF0; exact rfl; exact rfl; (first | with_reducible rfl | with_reducible assumption | decide); exact rfl) | (apply D.guardN; exact rfl; exact rfl; exact rfl)))
        refine D.op0 (O.addrL (u := sv x) rfl rfl rfl (by omega) hxm rfl) rfl rfl ?_
        refine D.op0 (O.load1 (u := sv x) rfl hxm rfl rfl rfl) rfl rfl ?_
        refine D.op0 (O.call rfl rfl hr11) rfl rfl ?_
        (repeat (first | (apply D.op0; (first | exact O.move rfl | exact O.assign rfl | exact O.fieldP rfl rfl rfl rfl | exact O.loadP rfl rfl rfl (by first | rfl | assumption) rfl | exact O.cmp rfl rfl rfl | exact O.int rfl rfl (add64 (by omega)) | exact O.int rfl rfl (sub64 (by omega)) | exact O.int rfl rfl (add8 (by omega)) | exact O.pickT rfl (by first | with_reducible rfl | with_reducible assumption | decide) rfl | exact O.pickF rfl (by first | with_reducible rfl | with_reducible assumption | decide) rfl | exact O.lenL rfl rfl | exact O.lenSv rfl rfl | exact O.lenS rfl rfl | exact O.not rfl | exact O.svEq rfl rfl | exact O.svNe rfl rfl | exact O.str rfl rfl rfl | exact O.boolEq rfl rfl rfl | exact O.fieldE rfl rfl rfl rfl | exact O.fieldR rfl rfl rfl rfl | exact O.loadPA rfl rfl (by first | rfl | assumption) rfl rfl | exact O.extr rfl rfl); exact rfl; exact rfl) | (apply D.guardT1; exact rfl; exact rfl; (first | with_reducible rfl | with_reducible assumption | decide)) | (apply D.guardT0; exact rfl; exact rfl; (first | with_reducible rfl | with_reducible assumption | decide)) | (apply D.guardF1; exact rfl; exact rfl; (first | with_reducible rfl | with_reducible assumption | decide); exact rfl) | (apply D.guardF0; exact rfl; exact rfl; (first | with_reducible rfl | with_reducible assumption | decide); exact rfl) | (apply D.guardN; exact rfl; exact rfl; exact rfl)))
        refine D.op0 (O.sliceL (a := 0) rfl rfl hb rfl hall) rfl rfl ?_
        (repeat (first | (apply D.op0; (first | exact O.move rfl | exact O.assign rfl | exact O.fieldP rfl rfl rfl rfl | exact O.loadP rfl rfl rfl (by first | rfl | assumption) rfl | exact O.cmp rfl rfl rfl | exact O.int rfl rfl (add64 (by omega)) | exact O.int rfl rfl (sub64 (by omega)) | exact O.int rfl rfl (add8 (by omega)) | exact O.pickT rfl (by first | with_reducible rfl | with_reducible assumption | decide) rfl | exact O.pickF rfl (by first | with_reducible rfl | with_reducible assumption | decide) rfl | exact O.lenL rfl rfl | exact O.lenSv rfl rfl | exact O.lenS rfl rfl | exact O.not rfl | exact O.svEq rfl rfl | exact O.svNe rfl rfl | exact O.str rfl rfl rfl | exact O.boolEq rfl rfl rfl | exact O.fieldE rfl rfl rfl rfl | exact O.fieldR rfl rfl rfl rfl | exact O.loadPA rfl rfl (by first | rfl | assumption) rfl rfl | exact O.extr rfl rfl); exact rfl; exact rfl) | (apply D.guardT1; exact rfl; exact rfl; (first | with_reducible rfl | with_reducible assumption | decide)) | (apply D.guardT0; exact rfl; exact rfl; (first | with_reducible rfl | with_reducible assumption | decide)) | (apply D.guardF1; exact rfl; exact rfl; (first | with_reducible rfl | with_reducible assumption | decide); exact rfl) | (apply D.guardF0; exact rfl; exact rfl; (first | with_reducible rfl | with_reducible assumption | decide); exact rfl) | (apply D.guardN; exact rfl; exact rfl; exact rfl)))
        refine D.op0 (O.addrL (u := sv x) rfl rfl rfl (by omega) hxm rfl) rfl rfl ?_
        (repeat (first | (apply D.op0; (first | exact O.move rfl | exact O.assign rfl | exact O.fieldP rfl rfl rfl rfl | exact O.loadP rfl rfl rfl (by first | rfl | assumption) rfl | exact O.cmp rfl rfl rfl | exact O.int rfl rfl (add64 (by omega)) | exact O.int rfl rfl (sub64 (by omega)) | exact O.int rfl rfl (add8 (by omega)) | exact O.pickT rfl (by first | with_reducible rfl | with_reducible assumption | decide) rfl | exact O.pickF rfl (by first | with_reducible rfl | with_reducible assumption | decide) rfl | exact O.lenL rfl rfl | exact O.lenSv rfl rfl | exact O.lenS rfl rfl | exact O.not rfl | exact O.svEq rfl rfl | exact O.svNe rfl rfl | exact O.str rfl rfl rfl | exact O.boolEq rfl rfl rfl | exact O.fieldE rfl rfl rfl rfl | exact O.fieldR rfl rfl rfl rfl | exact O.loadPA rfl rfl (by first | rfl | assumption) rfl rfl | exact O.extr rfl rfl); exact rfl; exact rfl) | (apply D.guardT1; exact rfl; exact rfl; (first | with_reducible rfl | with_reducible assumption | decide)) | (apply D.guardT0; exact rfl; exact rfl; (first | with_reducible rfl | with_reducible assumption | decide)) | (apply D.guardF1; exact rfl; exact rfl; (first | with_reducible rfl | with_reducible assumption | decide); exact rfl) | (apply D.guardF0; exact rfl; exact rfl; (first | with_reducible rfl | with_reducible assumption | decide); exact rfl) | (apply D.guardN; exact rfl; exact rfl; exact rfl)))
        refine D.op0 (O.load1 (u := sv x) rfl hxm rfl rfl rfl) rfl rfl ?_
        (repeat (first | (apply D.op0; (first | exact O.move rfl | exact O.assign rfl | exact O.fieldP rfl rfl rfl rfl | exact O.loadP rfl rfl rfl (by first | rfl | assumption) rfl | exact O.cmp rfl rfl rfl | exact O.int rfl rfl (add64 (by omega)) | exact O.int rfl rfl (sub64 (by omega)) | exact O.int rfl rfl (add8 (by omega)) | exact O.pickT rfl (by first | with_reducible rfl | with_reducible assumption | decide) rfl | exact O.pickF rfl (by first | with_reducible rfl | with_reducible assumption | decide) rfl | exact O.lenL rfl rfl | exact O.lenSv rfl rfl | exact O.lenS rfl rfl | exact O.not rfl | exact O.svEq rfl rfl | exact O.svNe rfl rfl | exact O.str rfl rfl rfl | exact O.boolEq rfl rfl rfl | exact O.fieldE rfl rfl rfl rfl | exact O.fieldR rfl rfl rfl rfl | exact O.loadPA rfl rfl (by first | rfl | assumption) rfl rfl | exact O.extr rfl rfl); exact rfl; exact rfl) | (apply D.guardT1; exact rfl; exact rfl; (first | with_reducible rfl | with_reducible assumption | decide)) | (apply D.guardT0; exact rfl; exact rfl; (first | with_reducible rfl | with_reducible assumption | decide)) | (apply D.guardF1; exact rfl; exact rfl; (first | with_reducible rfl | with_reducible assumption | decide); exact rfl) | (apply D.guardF0; exact rfl; exact rfl; (first | with_reducible rfl | with_reducible assumption | decide); exact rfl) | (apply D.guardN; exact rfl; exact rfl; exact rfl)))
        refine D.op0 (O.call rfl rfl hr39) rfl rfl ?_
        (repeat (first | (apply D.op0; (first | exact O.move rfl | exact O.assign rfl | exact O.fieldP rfl rfl rfl rfl | exact O.loadP rfl rfl rfl (by first | rfl | assumption) rfl | exact O.cmp rfl rfl rfl | exact O.int rfl rfl (add64 (by omega)) | exact O.int rfl rfl (sub64 (by omega)) | exact O.int rfl rfl (add8 (by omega)) | exact O.pickT rfl (by first | with_reducible rfl | with_reducible assumption | decide) rfl | exact O.pickF rfl (by first | with_reducible rfl | with_reducible assumption | decide) rfl | exact O.lenL rfl rfl | exact O.lenSv rfl rfl | exact O.lenS rfl rfl | exact O.not rfl | exact O.svEq rfl rfl | exact O.svNe rfl rfl | exact O.str rfl rfl rfl | exact O.boolEq rfl rfl rfl | exact O.fieldE rfl rfl rfl rfl | exact O.fieldR rfl rfl rfl rfl | exact O.loadPA rfl rfl (by first | rfl | assumption) rfl rfl | exact O.extr rfl rfl); exact rfl; exact rfl) | (apply D.guardT1; exact rfl; exact rfl; (first | with_reducible rfl | with_reducible assumption | decide)) | (apply D.guardT0; exact rfl; exact rfl; (first | with_reducible rfl | with_reducible assumption | decide)) | (apply D.guardF1; exact rfl; exact rfl; (first | with_reducible rfl | with_reducible assumption | decide); exact rfl) | (apply D.guardF0; exact rfl; exact rfl; (first | with_reducible rfl | with_reducible assumption | decide); exact rfl) | (apply D.guardN; exact rfl; exact rfl; exact rfl)))
        refine D.done (by kernel_rfl) ?_
        (repeat (first | (apply R.op0; (first | exact O.move rfl | exact O.assign rfl | exact O.fieldP rfl rfl rfl rfl | exact O.loadP rfl rfl rfl (by first | rfl | assumption) rfl | exact O.cmp rfl rfl rfl | exact O.int rfl rfl (add64 (by omega)) | exact O.int rfl rfl (sub64 (by omega)) | exact O.int rfl rfl (add8 (by omega)) | exact O.pickT rfl (by first | with_reducible rfl | with_reducible assumption | decide) rfl | exact O.pickF rfl (by first | with_reducible rfl | with_reducible assumption | decide) rfl | exact O.lenL rfl rfl | exact O.lenSv rfl rfl | exact O.lenS rfl rfl | exact O.not rfl | exact O.svEq rfl rfl | exact O.svNe rfl rfl | exact O.str rfl rfl rfl | exact O.boolEq rfl rfl rfl | exact O.fieldE rfl rfl rfl rfl | exact O.fieldR rfl rfl rfl rfl | exact O.loadPA rfl rfl (by first | rfl | assumption) rfl rfl | exact O.extr rfl rfl); exact rfl) | (apply R.guardT1; exact rfl; exact rfl; (first | with_reducible rfl | with_reducible assumption | decide)) | (apply R.guardT0; exact rfl; exact rfl; (first | with_reducible rfl | with_reducible assumption | decide)) | (apply R.guardF1; exact rfl; exact rfl; (first | with_reducible rfl | with_reducible assumption | decide); exact rfl) | (apply R.guardF0; exact rfl; exact rfl; (first | with_reducible rfl | with_reducible assumption | decide); exact rfl) | (apply R.guardN; exact rfl; exact rfl; exact rfl) | apply R.done | apply W.seq | apply W.region | apply W.draw | apply W.block | (apply W.condT; exact rfl; (first | with_reducible rfl | with_reducible assumption | decide)) | (apply W.condF; exact rfl; (first | with_reducible rfl | with_reducible assumption | decide)) | apply W.retAft | apply W.retBlk | apply W.retLop | apply W.exitAft | apply W.exitLop | apply W.exitBlk | (apply W.exitBlkNe; exact rfl) | apply W.skipAft | apply W.skipBlk | apply W.retCut | apply W.exitCut | apply R.skip))
        refine W.skipLop (i + 1) ?_ ?_ ⟨hlt, fun j hj => ?_⟩
        · show l.length - (i + 1) < l.length - i; omega
        · exact .cons rfl (.cons rfl (.nil _))
        · rcases Nat.lt_or_ge j i with h | h
          · exact he j h
          · obtain rfl : j = i := by omega
            rw [hxd, hN, hC]; rfl
  · have hge : i = l.length := by have := of_decide_eq_false hc; rw [List.length_map] at this; omega
    (repeat (first | (apply R.op0; (first | exact O.move rfl | exact O.assign rfl | exact O.fieldP rfl rfl rfl rfl | exact O.loadP rfl rfl rfl (by first | rfl | assumption) rfl | exact O.cmp rfl rfl rfl | exact O.int rfl rfl (add64 (by omega)) | exact O.int rfl rfl (sub64 (by omega)) | exact O.int rfl rfl (add8 (by omega)) | exact O.pickT rfl (by first | with_reducible rfl | with_reducible assumption | decide) rfl | exact O.pickF rfl (by first | with_reducible rfl | with_reducible assumption | decide) rfl | exact O.lenL rfl rfl | exact O.lenSv rfl rfl | exact O.lenS rfl rfl | exact O.not rfl | exact O.svEq rfl rfl | exact O.svNe rfl rfl | exact O.str rfl rfl rfl | exact O.boolEq rfl rfl rfl | exact O.fieldE rfl rfl rfl rfl | exact O.fieldR rfl rfl rfl rfl | exact O.loadPA rfl rfl (by first | rfl | assumption) rfl rfl | exact O.extr rfl rfl); exact rfl) | (apply R.guardT1; exact rfl; exact rfl; (first | with_reducible rfl | with_reducible assumption | decide)) | (apply R.guardT0; exact rfl; exact rfl; (first | with_reducible rfl | with_reducible assumption | decide)) | (apply R.guardF1; exact rfl; exact rfl; (first | with_reducible rfl | with_reducible assumption | decide); exact rfl) | (apply R.guardF0; exact rfl; exact rfl; (first | with_reducible rfl | with_reducible assumption | decide); exact rfl) | (apply R.guardN; exact rfl; exact rfl; exact rfl) | apply R.done | apply W.seq | apply W.region | apply W.draw | apply W.block | (apply W.condT; exact rfl; (first | with_reducible rfl | with_reducible assumption | decide)) | (apply W.condF; exact rfl; (first | with_reducible rfl | with_reducible assumption | decide)) | apply W.retAft | apply W.retBlk | apply W.retLop | apply W.exitAft | apply W.exitLop | apply W.exitBlk | (apply W.exitBlkNe; exact rfl) | apply W.skipAft | apply W.skipBlk | apply W.retCut | apply W.exitCut | apply R.skip))
    refine W.retFin1 rfl ⟨[], ?_⟩
    have : diff l = true := by
      unfold diff
      rw [List.all_eq_true]
      intro j hj
      exact he j (by simp at hj; omega)
    rw [this]; rfl
end Go.Abs

/- The reference: how many nodes an expression has, if it is formed. -/
open Go Go.Abs
namespace Go.Abs
set_option maxRecDepth 100000
set_option maxHeartbeats 4000000
instance fnis98 : FnIs CC 98 := ⟨rfl, fun _ => rfl⟩
def ty129 : TyI := { d := TyD.st [(0, 1), (1, 1), (2, 1)], sz := 3, bytes := 56, zero := AV.agg [AV.nils, AV.nils, AV.imm (IV.int Go.IntKind.i64 (0))] }
instance tyis129 : TyIs CC 129 ty129 := ⟨by kernel_rfl⟩

mutual
theorem calcR_ge : ∀ (c : Trm) (other : Bool) (depth left : Int), -1 ≤ calcR c other depth left
  | .mk op n kids, other, depth, left => by
    rw [calcR]
    split
    · omega
    · split
      · omega
      · split
        · omega
        · exact calcRs_ge kids other depth left 1 (by omega)
theorem calcRs_ge : ∀ (l : List Trm) (other : Bool) (depth left n : Int), 0 ≤ n → -1 ≤ calcRs l other depth left n
  | [], _, _, _, n, h => by rw [calcRs]; omega
  | k :: r, other, depth, left, n, h => by
    rw [calcRs]
    split
    · omega
    · exact calcRs_ge r other depth left _ (by omega)
end

/-- What an expression of a kind may name. -/
def nameIs (srcs defs : List Str) (ahead : Nat) (op : Int) (name : Str) : Bool :=
  if op = 1 then srcs.contains name else if op = 2 then (defs.take ahead).contains name else if op = 3 then defs.contains name else true
def foldIs (s : Shp) (fold : Int) : Bool := if s.fold then inR fold 1 4 else fold == 0
def other (op : Int) : Bool := op == 12 || op == 13
/-- Whether an expression has what those of its kind have. -/
def headIs (srcs defs : List Str) (ahead : Nat) (s : Shp) (op : Int) (name : Str) (n fold : Int) (nc nk : Nat) : Bool :=
  nc == s.calcs && nk == s.kids && (s.name == !(name == [])) && inR n s.low s.high && foldIs s fold && nameIs srcs defs ahead op name
mutual
/-- How many nodes an expression has; below 0: it is not formed. -/
def expR (srcs defs : List Str) (ahead : Nat) : Exp → Int → Int → Int
  | .mk op name n fold calcs kids, depth, left =>
    match shapeR op with
    | none => -1
    | some s =>
      if depth > 10 ∨ left < 1 then -1 else
      if headIs srcs defs ahead s op name n fold calcs.length kids.length then
        (if calcRs calcs (other op) 0 left 1 < 0 then -1 else expRs srcs defs ahead kids depth left (calcRs calcs (other op) 0 left 1))
      else -1
def expRs (srcs defs : List Str) (ahead : Nat) : List Exp → Int → Int → Int → Int
  | [], _, _, n => n
  | k :: r, depth, left, n => if expR srcs defs ahead k (depth + 1) (left - n) < 0 then -1 else expRs srcs defs ahead r depth left (n + expR srcs defs ahead k (depth + 1) (left - n))
end
mutual
theorem expR_le (srcs defs : List Str) (ahead : Nat) : ∀ (e : Exp) (depth left : Int), -1 ≤ expR srcs defs ahead e depth left ∧ (0 ≤ expR srcs defs ahead e depth left → 1 ≤ expR srcs defs ahead e depth left ∧ expR srcs defs ahead e depth left ≤ left)
  | .mk op name n fold calcs kids, depth, left => by
    rw [expR]
    split
    · omega
    · split
      · omega
      · split
        · split
          · omega
          · rename_i h1 _ h2
            have := calcRs_le calcs (Go.Abs.other op) 0 left 1 (by omega) (by omega)
            exact expRs_le srcs defs ahead kids depth left _ (by omega)
        · omega
theorem expRs_le (srcs defs : List Str) (ahead : Nat) : ∀ (l : List Exp) (depth left n : Int), 1 ≤ n ∧ n ≤ left → -1 ≤ expRs srcs defs ahead l depth left n ∧ (0 ≤ expRs srcs defs ahead l depth left n → 1 ≤ expRs srcs defs ahead l depth left n ∧ expRs srcs defs ahead l depth left n ≤ left)
  | [], _, _, n, hn => by rw [expRs]; omega
  | k :: r, depth, left, n, hn => by
    rw [expRs]
    split
    · omega
    · have h1 := expR_le srcs defs ahead k (depth + 1) (left - n)
      exact expRs_le srcs defs ahead r depth left _ (by omega)
end
theorem expRs_drop (srcs defs : List Str) (ahead : Nat) {kids : List Exp} {k : Exp} {i : Nat} (h : kids[i]? = some k) (depth left n : Int) :
    expRs srcs defs ahead (kids.drop i) depth left n = if expR srcs defs ahead k (depth + 1) (left - n) < 0 then -1 else expRs srcs defs ahead (kids.drop (i + 1)) depth left (n + expR srcs defs ahead k (depth + 1) (left - n)) := by
  have : kids.drop i = k :: kids.drop (i + 1) := by
    rw [List.getElem?_eq_some_iff] at h
    obtain ⟨hi, rfl⟩ := h
    exact List.drop_eq_getElem_cons hi
  rw [this, expRs]
theorem tivs_at {kids : List Trm} {k : Trm} {i : Nat} (h : kids[i]? = some k) : (Trm.ivs kids)[(i : Int).toNat]? = some k.iv := by
  rw [Trm.ivs_map]; exact at_map _ h
theorem tivs_len (kids : List Trm) : (Trm.ivs kids).length = kids.length := by rw [Trm.ivs_map, List.length_map]
theorem Trm.cells_len (e : Trm) : e.iv.cells.length = 3 := by cases e; rfl

theorem ret98 (srcs defs : List Str) (ahead : Nat) (hsl : srcs.length ≤ 9223372036854775807) (hdl : defs.length ≤ 9223372036854775807) (hah : ahead ≤ defs.length) {e : Exp} (hf : e.Fits) : ∀ (depth left : Int), (0 ≤ depth ∧ depth ≤ 1000) → (-1000 ≤ left ∧ left ≤ 1000) →
    Ret CC 98 [.agg [.lst (srcs.map sv), .lst (defs.map sv), .int .i64 ahead], e.iv, .int .i64 depth, .int .i64 left] (.int .i64 (expR srcs defs ahead e depth left)) := by
  induction hf with
  | mk op name n fold calcs kids hnm hw hc hk hcs hks ih =>
  intro depth left hd hl
  have hc' : calcs.length ≤ 9223372036854775807 := hc
  have hk' : kids.length ≤ 9223372036854775807 := hk
  have hlk := ivs_len kids
  have hlc := tivs_len calcs
  have hr105 := ret105 op
  have bad : expR srcs defs ahead (.mk op name n fold calcs kids) depth left = -1 → Ret CC 98 [.agg [.lst (srcs.map sv), .lst (defs.map sv), .int .i64 ahead], (Exp.mk op name n fold calcs kids).iv, .int .i64 depth, .int .i64 left] (.int .i64 (-1)) → Ret CC 98 [.agg [.lst (srcs.map sv), .lst (defs.map sv), .int .i64 ahead], (Exp.mk op name n fold calcs kids).iv, .int .i64 depth, .int .i64 left] (.int .i64 (expR srcs defs ahead (.mk op name n fold calcs kids) depth left)) := fun h hr => by rw [h]; exact hr
  refine Ret.of (fn := Go.Proofs.Try.f98) (by kernel_rfl) rfl rfl ?_
  refine W.seq (W.region ?_)
  refine R.op1 (O.boxS (cs := [.imm (.lst (srcs.map sv)), .imm (.lst (defs.map sv)), .imm (.int .i64 ahead)]) rfl rfl rfl) rfl ?_
  refine R.op1 (O.boxS (cs := [.imm (.int .i64 op), .imm (sv name), .imm (.int .i64 n), .imm (.int .i64 fold), .imm (.lst (Trm.ivs calcs)), .imm (.lst (Exp.ivs kids))]) rfl rfl rfl) rfl ?_
  cases hs : shapeR op with
  | none =>
    have hv : expR srcs defs ahead (.mk op name n fold calcs kids) depth left = -1 := by rw [expR, hs]
    rw [hs] at hr105
    rw [hv]
    refine SS ?_
    refine R.op1 (O.alloc (cs := [.imm (.int .i64 0), .imm (.int .i64 0), .imm (.bool false), .imm (.bool false), .imm (.int .i64 0), .imm (.int .i64 0)]) rfl rfl) rfl ?_
    refine R.opN1 (O.storeP (cs' := (shpIV ⟨0, 0, false, false, 0, 0⟩).cells.map .imm) rfl rfl rfl rfl rfl rfl) ?_
    refine SS ?_
    exact W.retFin1 rfl ⟨[], rfl⟩
  | some s =>
    rw [hs] at hr105
    refine SB ?_
    refine R.op1 (O.alloc (cs := [.imm (.int .i64 0), .imm (.int .i64 0), .imm (.bool false), .imm (.bool false), .imm (.int .i64 0), .imm (.int .i64 0)]) rfl rfl) rfl ?_
    refine R.opN1 (O.storeP (cs' := (shpIV s).cells.map .imm) rfl rfl rfl rfl rfl rfl) ?_
    have early : (depth > 10 ∨ left < 1) → expR srcs defs ahead (.mk op name n fold calcs kids) depth left = -1 := fun h => by rw [expR, hs]; simp only [if_pos h]
    have hbad : headIs srcs defs ahead s op name n fold calcs.length kids.length = false → expR srcs defs ahead (.mk op name n fold calcs kids) depth left = -1 := fun h => by
      rw [expR, hs]; simp only [h]; split <;> rfl
    have hr106 := ret106 n s.low s.high
    have hr106f := ret106 fold 1 4
    refine SB ?_
    refine W.seq ?_
    refine SB ?_
    rcases Bool.eq_false_or_eq_true (decide (depth > 10)) with hA | hA
    · refine SS ?_
      exact W.retFin1 rfl ⟨[], by rw [early (.inl (of_decide_eq_true hA))]; rfl⟩
    rcases Bool.eq_false_or_eq_true (decide (left < 1)) with hB | hB
    · refine SS ?_
      exact W.retFin1 rfl ⟨[], by rw [early (.inr (of_decide_eq_true hB))]; rfl⟩
    rcases Bool.eq_false_or_eq_true (((Trm.ivs calcs).length : Int) != (s.calcs : Int)) with hC | hC
    · refine SS ?_
      exact W.retFin1 rfl ⟨[], by rw [hbad (by rw [hlc] at hC; simp at hC; unfold headIs; simp; omega)]; rfl⟩
    rcases Bool.eq_false_or_eq_true (((Exp.ivs kids).length : Int) != (s.kids : Int)) with hD | hD
    · refine SS ?_
      exact W.retFin1 rfl ⟨[], by rw [hbad (by rw [hlk] at hD; simp at hD; unfold headIs; simp; omega)]; rfl⟩
    rcases Bool.eq_false_or_eq_true (!(s.name == !(name == []))) with hE | hE
    · refine SS ?_
      exact W.retFin1 rfl ⟨[], by rw [hbad (by simp at hE; unfold headIs; simp [hE])]; rfl⟩
    rcases Bool.eq_false_or_eq_true (!inR n s.low s.high) with hF | hF
    · refine SS ?_
      exact W.retFin1 rfl ⟨[], by rw [hbad (by simp at hF; unfold headIs; simp [hF])]; rfl⟩
    refine SB ?_
    have hF' : inR n s.low s.high = true := by simpa using hF
    have hE' : (s.name == !(name == [])) = true := by simpa using hE
    have hC' : calcs.length = s.calcs := by rw [hlc] at hC; simp at hC; omega
    have hD' : kids.length = s.kids := by rw [hlk] at hD; simp at hD; omega
    have hfold : foldIs s fold = false → headIs srcs defs ahead s op name n fold calcs.length kids.length = false := fun h => by unfold headIs; simp [h]
    have hname : foldIs s fold = true → headIs srcs defs ahead s op name n fold calcs.length kids.length = nameIs srcs defs ahead op name := fun h => by
      unfold headIs; rw [hC', hD', hE', hF', h]; simp
    clear hE hF hE' hF'
    refine W.cut (X := Unit) (fun _ => [(4, .ptr 0 0), (5, .ptr 1 0), (9, .ptr 9 0), (2, .imm (.int .i64 depth)), (3, .imm (.int .i64 left)), (10, .imm (.bool true))])
      (fun _ nx G => G 0 = .box [.imm (.lst (srcs.map sv)), .imm (.lst (defs.map sv)), .imm (.int .i64 ahead)] false ∧ G 1 = .box [.imm (.int .i64 op), .imm (sv name), .imm (.int .i64 n), .imm (.int .i64 fold), .imm (.lst (Trm.ivs calcs)), .imm (.lst (Exp.ivs kids))] false ∧
        G 9 = .box ((shpIV s).cells.map .imm) false ∧ foldIs s fold = true) ?_ ?_
    · cases hFo : s.fold with
      | true =>
        have hFn : (!s.fold) = false := by rw [hFo]; rfl
        have hfi : foldIs s fold = inR fold 1 4 := by unfold foldIs; rw [hFo]; rfl
        rcases Bool.eq_false_or_eq_true (!inR fold 1 4) with hI | hI
        · refine SS ?_
          exact W.retFin1 rfl ⟨[], by rw [hbad (hfold (by rw [hfi]; simpa using hI))]; rfl⟩
        · refine SS ?_
          exact W.skipCut () .auto ⟨rfl, rfl, rfl, by rw [hfi]; simpa using hI⟩
      | false =>
        have hFn : (!s.fold) = true := by rw [hFo]; rfl
        have hfi : foldIs s fold = (fold == 0) := by unfold foldIs; rw [hFo]; rfl
        rcases Bool.eq_false_or_eq_true (fold != 0) with hI | hI
        · refine SS ?_
          exact W.retFin1 rfl ⟨[], by rw [hbad (hfold (by rw [hfi]; simpa using hI))]; rfl⟩
        · refine SS ?_
          exact W.skipCut () .auto ⟨rfl, rfl, rfl, by rw [hfi]; simpa using hI⟩
    rintro _ nx G ⟨hG0, hG1, hG9, hfo⟩
    have hname := hname hfo
    clear hfold hr105 hr106 hr106f
    refine SB ?_
    refine W.cut (X := Unit) (fun _ => [(4, .ptr 0 0), (5, .ptr 1 0), (9, .ptr 9 0), (2, .imm (.int .i64 depth)), (3, .imm (.int .i64 left)), (10, .imm (.bool (nameIs srcs defs ahead op name)))])
      (fun _ _ G' => G' 0 = .box [.imm (.lst (srcs.map sv)), .imm (.lst (defs.map sv)), .imm (.int .i64 ahead)] false ∧ G' 1 = .box [.imm (.int .i64 op), .imm (sv name), .imm (.int .i64 n), .imm (.int .i64 fold), .imm (.lst (Trm.ivs calcs)), .imm (.lst (Exp.ivs kids))] false ∧
        G' 9 = .box ((shpIV s).cells.map .imm) false) ?_ ?_
    · have h1 := ret39 srcs name hsl
      have h2 := ret39 (defs.take ahead) name (by simp; omega)
      have h3 := ret39 defs name hdl
      by_cases e1 : op = 1
      · subst e1
        refine SS ?_
        exact W.skipCut () .auto ⟨hG0, hG1, hG9⟩
      by_cases e2 : op = 2
      · subst e2
        have e : ((defs.map sv).take ahead).drop 0 = (defs.take ahead).map sv := by simp
        have h2' : Ret CC 39 [.lst (((defs.map sv).take ahead).drop 0), sv name] (.bool ((defs.take ahead).contains name)) := by rw [e]; exact h2
        have hall : (defs.map sv).all (fun y => y.cells.length == ty9.sz) = true := by
          rw [List.all_eq_true]
          intro y hy
          obtain ⟨z, _, rfl⟩ := List.mem_map.1 hy
          rfl
        have hb : boundE [(98, .imm (.int .i64 (ahead : Int)))] (defs.map sv).length (defs.map sv).length (some (.tmp 98)) = some ahead := by
          show (if (0 : Int) ≤ ahead ∧ (ahead : Int) ≤ ((defs.map sv).length : Nat) then some (ahead : Int).toNat else none) = some ahead
          rw [if_pos ⟨by omega, by rw [List.length_map]; omega⟩, Int.toNat_natCast]
        refine SS ?_
        refine D.op0 (O.sliceL (a := 0) rfl rfl hb rfl hall) rfl rfl ?_
        refine SS ?_
        exact W.skipCut () .auto ⟨hG0, hG1, hG9⟩
      by_cases e3 : op = 3
      · subst e3
        refine SS ?_
        exact W.skipCut () .auto ⟨hG0, hG1, hG9⟩
      have hn : nameIs srcs defs ahead op name = true := by unfold nameIs; simp [e1, e2, e3]
      rw [hn]
      have e1' : (op == 1) = false := by simpa using e1
      have e2' : (op == 2) = false := by simpa using e2
      have e3' : (op == 3) = false := by simpa using e3
      refine SS ?_
      exact W.skipCut () .auto ⟨hG0, hG1, hG9⟩
    rintro _ nx G ⟨hG0, hG1, hG9⟩
    have hA' := of_decide_eq_false hA
    have hB' := of_decide_eq_false hB
    have hmk : expR srcs defs ahead (.mk op name n fold calcs kids) depth left = if nameIs srcs defs ahead op name then (if calcRs calcs (other op) 0 left 1 < 0 then -1 else expRs srcs defs ahead kids depth left (calcRs calcs (other op) 0 left 1)) else -1 := by
      rw [expR, hs]; simp only [if_neg (show ¬ (depth > 10 ∨ left < 1) by omega), hname]
    generalize hRes : expR srcs defs ahead (.mk op name n fold calcs kids) depth left = res
    rw [hRes] at hmk
    clear early hbad hname hRes bad
    generalize nameIs srcs defs ahead op name = is at hmk
    refine SB ?_
    refine W.cut (X := Int × Bool) (fun x => [(4, .ptr 0 0), (5, .ptr 1 0), (9, .ptr 9 0), (2, .imm (.int .i64 depth)), (3, .imm (.int .i64 left)), (11, .imm (.int .i64 x.1)), (10, .imm (.bool x.2))])
      (fun x _ G' => G' 0 = .box [.imm (.lst (srcs.map sv)), .imm (.lst (defs.map sv)), .imm (.int .i64 ahead)] false ∧ G' 1 = .box [.imm (.int .i64 op), .imm (sv name), .imm (.int .i64 n), .imm (.int .i64 fold), .imm (.lst (Trm.ivs calcs)), .imm (.lst (Exp.ivs kids))] false ∧
        G' 9 = .box ((shpIV s).cells.map .imm) false ∧ (x.2 = true → 1 ≤ x.1 ∧ x.1 ≤ left ∧ res = expRs srcs defs ahead kids depth left x.1) ∧ (x.2 = false → res = -1) ∧ -1 ≤ x.1 ∧ x.1 ≤ 1000) ?_ ?_
    · refine SS ?_
      refine W.loop (X := Nat × Int × Bool) (fun x => [(4, .ptr 0 0), (5, .ptr 1 0), (9, .ptr 9 0), (2, .imm (.int .i64 depth)), (3, .imm (.int .i64 left)), (12, .imm (.int .i64 x.1)), (11, .imm (.int .i64 x.2.1)), (10, .imm (.bool x.2.2))])
        (fun x _ G' => G' 0 = .box [.imm (.lst (srcs.map sv)), .imm (.lst (defs.map sv)), .imm (.int .i64 ahead)] false ∧ G' 1 = .box [.imm (.int .i64 op), .imm (sv name), .imm (.int .i64 n), .imm (.int .i64 fold), .imm (.lst (Trm.ivs calcs)), .imm (.lst (Exp.ivs kids))] false ∧
        G' 9 = .box ((shpIV s).cells.map .imm) false ∧ (x.2.2 = true → 1 ≤ x.2.1 ∧ x.2.1 ≤ left ∧ res = if calcRs (calcs.drop x.1) (other op) 0 left x.2.1 < 0 then -1 else expRs srcs defs ahead kids depth left (calcRs (calcs.drop x.1) (other op) 0 left x.2.1)) ∧ (x.2.2 = false → res = -1) ∧ (-1 ≤ x.2.1 ∧ x.2.1 ≤ 1000) ∧ x.1 ≤ calcs.length)
        (fun x => calcs.length - x.1) (0, 1, is) .auto ⟨hG0, hG1, hG9, ?_, ?_, (by show (-1 : Int) ≤ 1 ∧ (1 : Int) ≤ 1000; decide), Nat.zero_le _⟩ ?_
      · intro h
        refine ⟨(by show (1 : Int) ≤ 1; decide), (by show (1 : Int) ≤ left; omega), ?_⟩
        rw [hmk, if_pos h]; rfl
      · intro h
        dsimp only at h
        rw [hmk, h]; rfl
      rintro ⟨i, m, b⟩ nx G ⟨hG0, hG1, hG9, ht, hf, hm, hi⟩
      dsimp only at ht hf hm hi ⊢
      cases b with
      | false =>
        have hf := hf rfl
        rcases Bool.eq_false_or_eq_true (decide ((i : Int) < (s.calcs : Int))) with hc | hc
        · refine SS ?_
          exact W.skipCut (m, false) .auto ⟨hG0, hG1, hG9, (fun h => by cases h), fun _ => hf, hm⟩
        · refine SS ?_
          exact W.skipCut (m, false) .auto ⟨hG0, hG1, hG9, (fun h => by cases h), fun _ => hf, hm⟩
      | true =>
        obtain ⟨hm1, hm2, ht⟩ := ht rfl
        rcases Bool.eq_false_or_eq_true (decide ((i : Int) < (s.calcs : Int))) with hc | hc
        · have hlt : i < calcs.length := by have := of_decide_eq_true hc; omega
          obtain ⟨c, hx⟩ := at_lt hlt
          have hxi := tivs_at hx
          have hr := ret107 (hcs c (List.mem_of_getElem? hx)) (other op) 1 (left - m) (by omega) (by omega)
          have hge := calcR_ge c (other op) 1 (left - m)
          have hle := calcR_le c (other op) 1 (left - m)
          rw [calcRs_drop hx, show (0 : Int) + 1 = 1 from rfl] at ht
          have next : (decide (calcR c (other op) 1 (left - m) ≥ 0) = true → 1 ≤ m + calcR c (other op) 1 (left - m) ∧ m + calcR c (other op) 1 (left - m) ≤ left ∧ res = if calcRs (calcs.drop (i + 1)) (other op) 0 left (m + calcR c (other op) 1 (left - m)) < 0 then -1 else expRs srcs defs ahead kids depth left (calcRs (calcs.drop (i + 1)) (other op) 0 left (m + calcR c (other op) 1 (left - m)))) ∧
              (decide (calcR c (other op) 1 (left - m) ≥ 0) = false → res = -1) ∧ (-1 ≤ m + calcR c (other op) 1 (left - m) ∧ m + calcR c (other op) 1 (left - m) ≤ 1000) := by
            refine ⟨fun h => ?_, fun h => ?_, ?_⟩
            · have h := of_decide_eq_true h
              have := hle (by omega)
              rw [if_neg (show ¬ (calcR c (other op) 1 (left - m) < 0) by omega)] at ht
              exact ⟨by omega, by omega, ht⟩
            · have h := of_decide_eq_false h
              rw [if_pos (show calcR c (other op) 1 (left - m) < 0 by omega)] at ht
              simpa using ht
            · rcases Int.lt_or_le (calcR c (other op) 1 (left - m)) 0 with h | h
              · omega
              · have := hle h; omega
          obtain ⟨o', n', k'⟩ := c
          have hmu : calcs.length - (i + 1) < calcs.length - i := by omega
          generalize hoth : other op = oth at hr next hge hle
          generalize hk : calcR (.mk o' n' k') oth 1 (left - m) = r at hr next hge hle
          have hrb : r ≤ 1000 := by rcases Int.lt_or_le r 0 with h | h <;> omega
          rcases Bool.eq_false_or_eq_true (op == 12) with h12 | h12
          · have : oth = true := by rw [← hoth]; unfold other; rw [h12]; rfl
            subst this
            refine SS ?_
            refine W.skipLop (i + 1, m + r, decide (r ≥ 0)) hmu .auto ⟨hG0, hG1, hG9, next.1, next.2.1, next.2.2, hlt⟩
          · have : oth = (op == 13) := by rw [← hoth]; unfold other; rw [h12]; rfl
            subst this
            refine SS ?_
            refine W.skipLop (i + 1, m + r, decide (r ≥ 0)) hmu .auto ⟨hG0, hG1, hG9, next.1, next.2.1, next.2.2, hlt⟩
        · have hge : calcs.length ≤ i := by have := of_decide_eq_false hc; omega
          rw [List.drop_eq_nil_of_le hge, calcRs, if_neg (by omega)] at ht
          refine SS ?_
          exact W.skipCut (m, true) .auto ⟨hG0, hG1, hG9, fun _ => ⟨hm1, hm2, ht⟩, (fun h => by cases h), hm⟩
    rintro ⟨m, is⟩ nx G ⟨hG0, hG1, hG9, ht, hf, hm⟩
    dsimp only at ht hf hm ⊢
    clear hmk
    refine SB ?_
    refine W.cut (X := Int × Bool) (fun x => [(11, .imm (.int .i64 x.1)), (10, .imm (.bool x.2))])
      (fun x _ _ => (x.2 = true → res = x.1) ∧ (x.2 = false → res = -1)) ?_ ?_
    · refine SS ?_
      refine W.loop (X := Nat × Int × Bool) (fun x => [(4, .ptr 0 0), (5, .ptr 1 0), (9, .ptr 9 0), (2, .imm (.int .i64 depth)), (3, .imm (.int .i64 left)), (14, .imm (.int .i64 x.1)), (11, .imm (.int .i64 x.2.1)), (10, .imm (.bool x.2.2))])
        (fun x _ G' => G' 0 = .box [.imm (.lst (srcs.map sv)), .imm (.lst (defs.map sv)), .imm (.int .i64 ahead)] false ∧ G' 1 = .box [.imm (.int .i64 op), .imm (sv name), .imm (.int .i64 n), .imm (.int .i64 fold), .imm (.lst (Trm.ivs calcs)), .imm (.lst (Exp.ivs kids))] false ∧
        G' 9 = .box ((shpIV s).cells.map .imm) false ∧ (x.2.2 = true → 1 ≤ x.2.1 ∧ x.2.1 ≤ left ∧ res = expRs srcs defs ahead (kids.drop x.1) depth left x.2.1) ∧ (x.2.2 = false → res = -1) ∧ (-1 ≤ x.2.1 ∧ x.2.1 ≤ 1000) ∧ x.1 ≤ kids.length)
        (fun x => kids.length - x.1) (0, m, is) .auto ⟨hG0, hG1, hG9, ht, hf, hm, Nat.zero_le _⟩ ?_
      rintro ⟨i, m, b⟩ nx G ⟨hG0, hG1, hG9, ht, hf, hm, hi⟩
      dsimp only at ht hf hm hi ⊢
      cases b with
      | false =>
        have hf := hf rfl
        rcases Bool.eq_false_or_eq_true (decide ((i : Int) < (s.kids : Int))) with hc | hc
        · refine SS ?_
          exact W.skipCut (m, false) .auto ⟨(fun h => by cases h), fun _ => hf⟩
        · refine SS ?_
          exact W.skipCut (m, false) .auto ⟨(fun h => by cases h), fun _ => hf⟩
      | true =>
        obtain ⟨hm1, hm2, ht⟩ := ht rfl
        rcases Bool.eq_false_or_eq_true (decide ((i : Int) < (s.kids : Int))) with hc | hc
        · have hlt : i < kids.length := by have := of_decide_eq_true hc; omega
          obtain ⟨k, hx⟩ := at_lt hlt
          have hxi := ivs_at hx
          have hr := ih k (List.mem_of_getElem? hx) (depth + 1) (left - m) (by omega) (by omega)
          have hle := expR_le srcs defs ahead k (depth + 1) (left - m)
          rw [expRs_drop srcs defs ahead hx] at ht
          have hmu : kids.length - (i + 1) < kids.length - i := by omega
          generalize hk : expR srcs defs ahead k (depth + 1) (left - m) = r at hr hle ht
          have hrb : r ≤ 1000 := by rcases Int.lt_or_le r 0 with h | h <;> omega
          have next : (decide (r ≥ 0) = true → 1 ≤ m + r ∧ m + r ≤ left ∧ res = expRs srcs defs ahead (kids.drop (i + 1)) depth left (m + r)) ∧ (decide (r ≥ 0) = false → res = -1) ∧ (-1 ≤ m + r ∧ m + r ≤ 1000) := by
            refine ⟨fun h => ?_, fun h => ?_, ?_⟩
            · have h := of_decide_eq_true h
              rw [if_neg (show ¬ (r < 0) by omega)] at ht
              exact ⟨by omega, by omega, ht⟩
            · have h := of_decide_eq_false h
              rw [if_pos (show r < 0 by omega)] at ht
              exact ht
            · rcases Int.lt_or_le r 0 with h | h <;> omega
          obtain ⟨o', s', n', f', c', k'⟩ := k
          refine SS ?_
          refine W.skipLop (i + 1, m + r, decide (r ≥ 0)) hmu .auto ⟨hG0, hG1, hG9, next.1, next.2.1, next.2.2, hlt⟩
        · have hge : kids.length ≤ i := by have := of_decide_eq_false hc; omega
          rw [List.drop_eq_nil_of_le hge, expRs] at ht
          refine SS ?_
          exact W.skipCut (m, true) .auto ⟨fun _ => ht, (fun h => by cases h)⟩
    rintro ⟨m, is⟩ nx G ⟨ht, hf⟩
    dsimp only at ht hf ⊢
    cases is with
    | false =>
      refine SS ?_
      exact W.retFin1 rfl ⟨[], by rw [hf rfl]; rfl⟩
    | true =>
      refine SS ?_
      exact W.retFin1 rfl ⟨[], by rw [ht rfl]; rfl⟩
end Go.Abs

/- The reference: how many nodes a program has, if its parts are formed. -/
open Go Go.Abs
namespace Go.Abs
set_option maxRecDepth 100000
set_option maxHeartbeats 4000000
instance fnis65 : FnIs CC 65 := ⟨rfl, fun _ => rfl⟩

def countL (srcs names : List Str) : List Dfn → Nat → Int → Int
  | [], _, n => n
  | d :: r, i, n => if expR srcs names i d.exp 1 (60 - n) < 0 then -1 else countL srcs names r (i + 1) (n + expR srcs names i d.exp 1 (60 - n))
def countR (p : Pgm) : Int :=
  if p.srcs.length < 1 ∨ 4 < p.srcs.length ∨ 6 < p.defs.length then -1 else
  if diff (p.srcs ++ defNames p) then countL p.srcs (defNames p) p.defs 0 0 else -1
theorem countL_drop (srcs names : List Str) {ds : List Dfn} {d : Dfn} {i : Nat} (h : ds[i]? = some d) (n : Int) :
    countL srcs names (ds.drop i) i n = if expR srcs names i d.exp 1 (60 - n) < 0 then -1 else countL srcs names (ds.drop (i + 1)) (i + 1) (n + expR srcs names i d.exp 1 (60 - n)) := by
  have : ds.drop i = d :: ds.drop (i + 1) := by
    rw [List.getElem?_eq_some_iff] at h
    obtain ⟨hi, rfl⟩ := h
    exact List.drop_eq_getElem_cons hi
  rw [this, countL]

theorem peeks_row {G : Nat → Obj} {o n e sz : Nat} {xs : List IV} (h : G o = .row e sz (xs.map .imm) false) (hn : xs.length = n) : ∃ ids, peeks G [.row o n] = some ([.lst xs], ids) := by
  have ho : Own e sz o (o + 1) xs G (.row o n) := .inr ⟨o, Nat.le_refl _, by omega, by rw [hn], h⟩
  obtain ⟨ids, hp⟩ := ho.peek (k := 99)
  have hp' : peek G pkDepth (.row o n) = some (.lst xs, ids) := hp
  exact ⟨ids ++ [], by simp only [peeks, peekL, hp']⟩

theorem O.callRow {C : Cfg} {id : Nat} {l : Env} {G : Nat → Obj} {nx : Nat} {df : List (AV × List AV)} {pk : Pk} {f : FuncId} {ar : List Operand} {ats : Array TypeId} {o n e sz : Nat} {xs : List IV} {ys : List AV} {x : IV} [hf : FnIs C f] (ha : looks l ar = some [.row o n]) (hG : G o = .row e sz ys false) (hn : ys.length = n) (hy : ys = xs.map .imm) (hr : Ret C f [.lst xs] x) (hx : x.scalar = true) :
    OpV C id l G nx df pk (.call { callee := .value (.func f), args := ⟨ar⟩, argTypes := ats }) (.imm x) [] := by
  subst hy
  obtain ⟨ids, hp⟩ := peeks_row hG (by simpa using hn)
  exact O.callG ha hp hr hx
theorem sv_fits (l : List Str) : ((l.map sv).map AV.imm).all (AV.fits 1) = true := by
  rw [List.all_eq_true]
  intro x hx
  simp only [List.mem_map] at hx
  obtain ⟨y, ⟨z, _, rfl⟩, rfl⟩ := hx
  rfl

theorem ret65 (p : Pgm) (hp : p.Fits) : Ret CC 65 [p.iv] (.int .i64 (countR p)) := by
  have hr96 := ret96 p hp.defs
  obtain ⟨srcs, defs⟩ := p
  have hs := hp.srcs
  have hd := hp.defs
  have hnl : (defNames ⟨srcs, defs⟩).length ≤ 7 := by simp [defNames]; omega
  have hnl2 : defs.length ≤ 6 → (defNames ⟨srcs, defs⟩).length = defs.length := fun h => by simp [defNames]; omega
  have hns : ∀ s ∈ defNames ⟨srcs, defs⟩, s.length ≤ 9223372036854775807 := by
    intro s hs
    simp only [defNames, List.mem_map] at hs
    obtain ⟨d, hd, rfl⟩ := hs
    exact hp.name d (List.mem_of_mem_take hd)
  simp only at hs hd
  unfold maxI at hs hd
  refine Ret.of (fn := Go.Proofs.Try.f65) (by kernel_rfl) rfl rfl ?_
  refine W.seq (W.region ?_)
  refine R.op1 (O.boxS (cs := [.imm (.lst (srcs.map sv)), .imm (.lst (defs.map Dfn.iv))]) rfl rfl rfl) rfl ?_
  have early : (srcs.length < 1 ∨ 4 < srcs.length ∨ 6 < defs.length) → countR ⟨srcs, defs⟩ = -1 := fun h => by unfold countR; rw [if_pos h]
  refine SB ?_
  refine W.seq ?_
  refine SB ?_
  rcases Bool.eq_false_or_eq_true (decide (((srcs.map sv).length : Int) < 1)) with hA | hA
  · refine SS ?_
    exact W.retFin1 rfl ⟨[], by rw [early (.inl (by have := of_decide_eq_true hA; rw [List.length_map] at this; omega))]; rfl⟩
  rcases Bool.eq_false_or_eq_true (decide (((srcs.map sv).length : Int) > 4)) with hB | hB
  · refine SS ?_
    exact W.retFin1 rfl ⟨[], by rw [early (.inr (.inl (by have := of_decide_eq_true hB; rw [List.length_map] at this; omega)))]; rfl⟩
  rcases Bool.eq_false_or_eq_true (decide (((defs.map Dfn.iv).length : Int) > 6)) with hC | hC
  · refine SS ?_
    exact W.retFin1 rfl ⟨[], by rw [early (.inr (.inr (by have := of_decide_eq_true hC; rw [List.length_map] at this; omega)))]; rfl⟩
  have hsm : (srcs.map sv).length = srcs.length := List.length_map ..
  have hdm : (defs.map Dfn.iv).length = defs.length := List.length_map ..
  have hA' := of_decide_eq_false hA
  have hB' := of_decide_eq_false hB
  have hC' := of_decide_eq_false hC
  have hmk : countR ⟨srcs, defs⟩ = if diff (srcs ++ defNames ⟨srcs, defs⟩) then countL srcs (defNames ⟨srcs, defs⟩) defs 0 0 else -1 := by
    unfold countR; rw [if_neg (by simp only; omega)]
  have hnl2 := hnl2 (by omega)
  have hr97 := ret97 (srcs ++ defNames ⟨srcs, defs⟩) (by rw [List.length_append]; omega) (fun s h => by
    rcases List.mem_append.1 h with h | h
    · exact hp.src s h
    · exact hns s h)
  generalize hN : defNames ⟨srcs, defs⟩ = names at hr96 hmk hnl hns hnl2 hr97
  rw [hmk]
  refine SB ?_
  refine D.op1 (O.alloc (cs := [.nils, .nils, .imm (.int .i64 0)]) rfl rfl) rfl rfl ?_
  refine D.opN1 (O.storeP (cs' := [.imm (.lst (srcs.map sv)), .imm (.lst (names.map sv)), .imm (.int .i64 0)]) rfl rfl rfl rfl rfl rfl) rfl ?_
  refine SB ?_
  refine W.seq ?_
  refine SB ?_
  refine D.op1 (O.appNil (ke := ty9) (ys := (srcs.map sv).map .imm) rfl rfl rfl rfl rfl (by decide) (by decide) rfl (sv_fits srcs) (by simp [most]; omega)) rfl rfl ?_
  refine SD ?_
  refine D.op1 (O.appRow (ke := ty9) (xs := (srcs.map sv).map .imm) (ys := (names.map sv).map .imm) rfl rfl rfl rfl rfl rfl rfl (by decide) (by decide) rfl (sv_fits names) (by simp [most]; omega)) rfl rfl ?_
  refine D.op0 (O.callRow (xs := (srcs ++ names).map sv) rfl rfl rfl (by simp) hr97 rfl) rfl rfl ?_
  generalize hdf : diff (srcs ++ names) = df
  cases df with
  | false =>
    refine SS ?_
    exact W.retFin1 rfl ⟨[], rfl⟩
  | true =>
  refine SB ?_
  refine W.seq ?_
  refine SS ?_
  refine W.loop (X := Nat × Int × Int) (fun x => [(1, .ptr 0 0), (3, .ptr 23 0), (5, .imm (.int .i64 x.1)), (4, .imm (.int .i64 x.2.1))])
    (fun x _ G => G 0 = .box [.imm (.lst (srcs.map sv)), .imm (.lst (defs.map Dfn.iv))] false ∧ G 23 = .box [.imm (.lst (srcs.map sv)), .imm (.lst (names.map sv)), .imm (.int .i64 x.2.2)] false ∧
      x.1 ≤ defs.length ∧ (0 ≤ x.2.1 ∧ x.2.1 ≤ 60) ∧ countL srcs names defs 0 0 = countL srcs names (defs.drop x.1) x.1 x.2.1)
    (fun x => defs.length - x.1) (0, 0, 0) .auto ⟨rfl, rfl, Nat.zero_le _, (by show (0 : Int) ≤ 0 ∧ (0 : Int) ≤ 60; decide), rfl⟩ ?_
  rintro ⟨i, n, a⟩ nx G ⟨hG0, hG23, hi, hn, he⟩
  dsimp only at hi hn he hG23 ⊢
  rw [he]
  clear he
  refine SS ?_
  refine W.cond rfl (fun hc => ?_) (fun hc => ?_)
  · have hlt : i < defs.length := by have := of_decide_eq_true hc; omega
    obtain ⟨d, hx⟩ := at_lt hlt
    have hxi := at_map Dfn.iv hx
    have hdc := d.cells_len
    have hr := ret98 srcs names i hs (by omega) (by omega) (hp.exp d (List.mem_of_getElem? hx)) 1 (60 - n) (by decide) (by omega)
    have hle := expR_le srcs names i d.exp 1 (60 - n)
    rw [countL_drop srcs names hx]
    have hmu : defs.length - (i + 1) < defs.length - i := by omega
    generalize hk : expR srcs names i d.exp 1 (60 - n) = r at hr hle ⊢
    obtain ⟨nm, ⟨o', s', n', f', c', k'⟩⟩ := d
    refine SS ?_
    refine R.opN1 (O.storeP (cs' := [.imm (.lst (srcs.map sv)), .imm (.lst (names.map sv)), .imm (.int .i64 i)]) rfl rfl rfl hG23 rfl rfl) ?_
    refine R.gen (P := fun G _ _ => G 0 = .box [.imm (.lst (srcs.map sv)), .imm (.lst (defs.map Dfn.iv))] false ∧ G 23 = .box [.imm (.lst (srcs.map sv)), .imm (.lst (names.map sv)), .imm (.int .i64 i)] false) ⟨by rw [upd_ne _ _ _ _ (by omega)]; exact hG0, upd_same ..⟩ ?_
    clear hG0 hG23
    rintro G nx base ⟨hG0, hG23⟩
    refine SS ?_
    rcases Bool.eq_false_or_eq_true (decide (r < 0)) with hr0 | hr0
    · rw [if_pos (of_decide_eq_true hr0)]
      refine SS ?_
      exact W.retFin1 rfl ⟨[], rfl⟩
    · have hr0' := of_decide_eq_false hr0
      rw [if_neg hr0']
      refine SS ?_
      exact W.skipLop (i + 1, n + r, (i : Int)) hmu .auto ⟨hG0, hG23, hlt, (by show 0 ≤ n + r ∧ n + r ≤ 60; omega), rfl⟩
  · have hge : defs.length ≤ i := by have := of_decide_eq_false hc; omega
    rw [List.drop_eq_nil_of_le hge, countL]
    refine SS ?_
    exact W.retFin1 rfl ⟨[], rfl⟩
end Go.Abs

/- The abstract interpreter: a logic of what code comes to: slices of slices of the call's own. -/
namespace Go.Abs
variable {C : Cfg} {fid nt : Nat} {l : Env} {G G' : Nat → Obj} {nx : Nat} {df : List (AV × List AV)} {pk : Pk} {Φ Φ' : Out → Prop} {a b : Code} {ol r : List Oper} {base i d : Nat} {ty : TypeId} {pos : String} {af : Array Edge} {v : AV} {id : Nat}

def All2 {α β : Type} (R : α → β → Prop) : List α → List β → Prop
  | [], [] => True
  | a :: r, b :: s => R a b ∧ All2 R r s
  | _, _ => False
theorem All2.imp {α β : Type} {R S : α → β → Prop} (h : ∀ a b, R a b → S a b) : ∀ {l : List α} {m : List β}, All2 R l m → All2 S l m
  | [], [], _ => trivial
  | _ :: _, _ :: _, hl => ⟨h _ _ hl.1, All2.imp h hl.2⟩
  | [], _ :: _, hl => hl.elim
  | _ :: _, [], hl => hl.elim
theorem All2.append {α β : Type} {R : α → β → Prop} : ∀ {l : List α} {m : List β} {l' : List α} {m' : List β}, All2 R l m → All2 R l' m' → All2 R (l ++ l') (m ++ m')
  | [], [], _, _, _, h' => h'
  | _ :: _, _ :: _, _, _, hl, h' => ⟨hl.1, All2.append hl.2 h'⟩
  | [], _ :: _, _, _, hl, _ => hl.elim
  | _ :: _, [], _, _, hl, _ => hl.elim
theorem All2.length {α β : Type} {R : α → β → Prop} : ∀ {l : List α} {m : List β}, All2 R l m → l.length = m.length
  | [], [], _ => rfl
  | _ :: _, _ :: _, hl => by simp only [List.length_cons, All2.length hl.2]
  | [], _ :: _, hl => hl.elim
  | _ :: _, [], hl => hl.elim

theorem peekL_frame {f g : AV → Option (IV × List Nat)} {Q : Nat → Prop} (hfg : ∀ v x ids, f v = some (x, ids) → (∀ o ∈ ids, Q o) → g v = some (x, ids)) : ∀ (vs : List AV) (xs : List IV) (ids : List Nat), peekL f vs = some (xs, ids) → (∀ o ∈ ids, Q o) → peekL g vs = some (xs, ids)
  | [], xs, ids, h, _ => h
  | v :: r, xs, ids, h, hq => by
    unfold peekL at h ⊢
    cases hv : f v with
    | none => rw [hv] at h; cases h
    | some p =>
      obtain ⟨x, i⟩ := p
      rw [hv] at h
      cases hr : peekL f r with
      | none => rw [hr] at h; cases h
      | some q =>
        obtain ⟨l, is⟩ := q
        rw [hr] at h
        cases h
        rw [hfg v x i hv (fun o ho => hq o (by simp [ho])), peekL_frame hfg r l is hr (fun o ho => hq o (by simp [ho]))]
/-- What is read is read again where its objects are the same. -/
theorem peek_frame : ∀ (k : Nat) (v : AV) (x : IV) (ids : List Nat), Go.Abs.peek G k v = some (x, ids) → (∀ o ∈ ids, G' o = G o) → Go.Abs.peek G' k v = some (x, ids) := by
  intro k
  induction k with
  | zero =>
    intro v x ids h _
    cases v <;> simp only [Go.Abs.peek] at h ⊢ <;> first | exact h | cases h
  | succ k ih =>
    intro v x ids h hq
    cases v with
    | imm y => exact h
    | nils => exact h
    | row o n =>
      unfold Go.Abs.peek at h ⊢
      cases hG : G o with
      | row e sz vs fr =>
        rw [hG] at h
        dsimp only at h
        split at h
        · rename_i hn
          cases hp : peekL (Go.Abs.peek G k) vs with
          | none => rw [hp] at h; cases h
          | some p =>
            obtain ⟨xs, is⟩ := p
            rw [hp] at h
            cases h
            rw [hq o (by simp), hG]
            dsimp only
            rw [if_pos hn, peekL_frame (g := Go.Abs.peek G' k) (Q := fun o => G' o = G o) ih vs xs is hp (fun o' ho => hq o' (by simp [ho]))]
        · cases h
      | _ => rw [hG] at h; cases h
    | map o =>
      unfold Go.Abs.peek at h ⊢
      cases hG : G o with
      | mp ks vs fr =>
        rw [hG] at h
        dsimp only at h
        cases hp : peekL (Go.Abs.peek G k) vs with
        | none => rw [hp] at h; cases h
        | some p =>
          obtain ⟨xs, is⟩ := p
          rw [hp] at h
          cases h
          rw [hq o (by simp), hG]
          dsimp only
          rw [peekL_frame (g := Go.Abs.peek G' k) (Q := fun o => G' o = G o) ih vs xs is hp (fun o' ho => hq o' (by simp [ho]))]
      | _ => rw [hG] at h; cases h
    | ptr o off =>
      unfold Go.Abs.peek at h ⊢
      cases hG : G o with
      | box cs fr =>
        rw [hG] at h
        dsimp only at h
        cases hp : peekL (Go.Abs.peek G k) cs with
        | none => rw [hp] at h; cases h
        | some p =>
          obtain ⟨xs, is⟩ := p
          rw [hp] at h
          cases h
          rw [hq o (by simp), hG]
          dsimp only
          rw [peekL_frame (g := Go.Abs.peek G' k) (Q := fun o => G' o = G o) ih cs xs is hp (fun o' ho => hq o' (by simp [ho]))]
      | _ => rw [hG] at h; cases h
    | fn f cap =>
      unfold Go.Abs.peek at h ⊢
      cases hp : peekL (Go.Abs.peek G k) cap with
      | none => rw [hp] at h; cases h
      | some p =>
        obtain ⟨xs, is⟩ := p
        rw [hp] at h
        cases h
        rw [peekL_frame (g := Go.Abs.peek G' k) (Q := fun o => G' o = G o) ih cap xs _ hp hq]
    | agg cs =>
      unfold Go.Abs.peek at h ⊢
      cases hp : peekL (Go.Abs.peek G k) cs with
      | none => rw [hp] at h; cases h
      | some p =>
        obtain ⟨xs, is⟩ := p
        rw [hp] at h
        cases h
        rw [peekL_frame (g := Go.Abs.peek G' k) (Q := fun o => G' o = G o) ih cs xs _ hp hq]
    | tup cs =>
      unfold Go.Abs.peek at h ⊢
      cases hp : peekL (Go.Abs.peek G k) cs with
      | none => rw [hp] at h; cases h
      | some p =>
        obtain ⟨xs, is⟩ := p
        rw [hp] at h
        cases h
        rw [peekL_frame (g := Go.Abs.peek G' k) (Q := fun o => G' o = G o) ih cs xs _ hp hq]
    | _ => simp only [Go.Abs.peek] at h; cases h

/-- A value reads as data, of some objects. -/
def Rdx (d : Nat) (G : Nat → Obj) (P : Nat → Prop) (v : AV) (x : IV) : Prop := ∃ ids, (∀ k, Go.Abs.peek G (k + d) v = some (x, ids)) ∧ ∀ i ∈ ids, P i
theorem Rdx.imm (d : Nat) (G : Nat → Obj) (P : Nat → Prop) (x : IV) : Rdx d G P (.imm x) x := ⟨[], fun k => by cases k + d <;> rfl, fun _ h => by cases h⟩
theorem Rdx.nils (d : Nat) (G : Nat → Obj) (P : Nat → Prop) : Rdx d G P .nils (.lst []) := ⟨[], fun k => by cases k + d <;> rfl, fun _ h => by cases h⟩
theorem Rdx.frame {d : Nat} {P P' : Nat → Prop} {v : AV} {x : IV} (h : Rdx d G P v x) (hG : ∀ o, P o → G' o = G o) (hP : ∀ o, P o → P' o) : Rdx d G' P' v x := by
  obtain ⟨ids, h1, h2⟩ := h
  exact ⟨ids, fun k => peek_frame _ _ _ _ (h1 k) fun o ho => hG o (h2 o ho), fun o ho => hP o (h2 o ho)⟩
theorem Rdx.peek {d : Nat} {P : Nat → Prop} {v : AV} {x : IV} (h : Rdx d G P v x) (hd : d ≤ 100) : ∃ ids, Go.Abs.peek G pkDepth v = some (x, ids) := by
  obtain ⟨ids, h1, _⟩ := h
  have := h1 (100 - d)
  rw [show 100 - d + d = 100 by omega] at this
  exact ⟨ids, this⟩
theorem All2.peekL {d : Nat} {P : Nat → Prop} : ∀ {vs : List AV} {xs : List IV}, All2 (Rdx d G P) vs xs → ∃ ids, (∀ k, Go.Abs.peekL (Go.Abs.peek G (k + d)) vs = some (xs, ids)) ∧ ∀ i ∈ ids, P i
  | [], [], _ => ⟨[], fun _ => rfl, fun _ h => by cases h⟩
  | v :: vs, x :: xs, h => by
    obtain ⟨i1, a1, b1⟩ := h.1
    obtain ⟨i2, a2, b2⟩ := All2.peekL h.2
    refine ⟨i1 ++ i2, fun k => ?_, fun i hi => (List.mem_append.1 hi).elim (b1 i) (b2 i)⟩
    unfold Go.Abs.peekL
    rw [a1 k, a2 k]
  | [], _ :: _, h => h.elim
  | _ :: _, [], h => h.elim
theorem Rdx.row {d o n e sz : Nat} {P : Nat → Prop} {vs : List AV} {xs : List IV} {fr : Bool} (hG : G o = .row e sz vs fr) (hn : vs.length = n) (h : All2 (Rdx d G P) vs xs) (ho : P o) : Rdx (d + 1) G P (.row o n) (.lst xs) := by
  obtain ⟨ids, h1, h2⟩ := h.peekL
  refine ⟨o :: ids, fun k => ?_, fun i hi => (List.mem_cons.1 hi).elim (fun h => h ▸ ho) (h2 i)⟩
  show Go.Abs.peek G (k + d + 1) _ = _
  unfold Go.Abs.peek
  rw [hG]
  dsimp only
  rw [if_pos hn, h1 k]
theorem All2.imms (d : Nat) (G : Nat → Obj) (P : Nat → Prop) : ∀ xs : List IV, All2 (Rdx d G P) (xs.map .imm) xs
  | [] => trivial
  | _ :: r => ⟨.imm .., All2.imms d G P r⟩
theorem Own.rdx {e sz lo hi : Nat} {xs : List IV} (h : Own e sz lo hi xs G v) : Rdx 1 G (fun i => lo ≤ i ∧ i < hi) v (.lst xs) := by
  rcases h with ⟨rfl, rfl⟩ | ⟨o, h1, h2, rfl, hG⟩
  · exact .nils ..
  · exact .row hG (by simp) (All2.imms 0 G _ xs) ⟨h1, h2⟩

/-- A slice of the call's own, of such that read as data. -/
def OwnV (d e sz lo hi : Nat) (xs : List IV) (G : Nat → Obj) (v : AV) : Prop :=
  (xs = [] ∧ v = .nils) ∨ ∃ o vs, lo ≤ o ∧ o < hi ∧ v = .row o vs.length ∧ G o = .row e sz vs false ∧ All2 (Rdx d G (fun i => lo ≤ i ∧ i < hi ∧ i ≠ o)) vs xs
theorem OwnV.nil (d e sz lo hi : Nat) (G : Nat → Obj) : OwnV d e sz lo hi [] G .nils := .inl ⟨rfl, rfl⟩
theorem OwnV.rdx {d e sz lo hi : Nat} {xs : List IV} (h : OwnV d e sz lo hi xs G v) : Rdx (d + 1) G (fun i => lo ≤ i ∧ i < hi) v (.lst xs) := by
  rcases h with ⟨rfl, rfl⟩ | ⟨o, vs, h1, h2, rfl, hG, ha⟩
  · exact .nils ..
  · exact .row hG rfl (ha.imp fun _ _ h => h.frame (fun _ _ => rfl) fun _ h => ⟨h.1, h.2.1⟩) ⟨h1, h2⟩
theorem OwnV.frame {d e sz lo hi hi' : Nat} {xs : List IV} (h : OwnV d e sz lo hi xs G v) (hh : hi ≤ hi') (hG : ∀ o, lo ≤ o → o < hi → G' o = G o) : OwnV d e sz lo hi' xs G' v := by
  rcases h with h | ⟨o, vs, h1, h2, h3, h4, ha⟩
  · exact .inl h
  · exact .inr ⟨o, vs, h1, by omega, h3, by rw [hG o h1 h2]; exact h4, ha.imp fun _ _ h => h.frame (fun i hi => hG i hi.1 hi.2.1) fun i hi => ⟨hi.1, by omega, hi.2.2⟩⟩
theorem OwnV.elems {d e sz lo hi : Nat} {xs : List IV} (h : OwnV d e sz lo hi xs G v) : ∃ vs, Go.Abs.elems G v = some vs ∧ vs.length = xs.length := by
  rcases h with ⟨rfl, rfl⟩ | ⟨o, vs, _, _, rfl, hG, ha⟩
  · exact ⟨[], rfl, rfl⟩
  · exact ⟨vs, by simp [Go.Abs.elems, hG], ha.length⟩
theorem O.lenV {x : Operand} {t : TypeId} {k : TyI} {d e e' sz lo hi : Nat} {xs : List IV} [hk : TyIs C t k] (hx : lookO l x = some v) (hl : k.d = .sl e') (ho : OwnV d e sz lo hi xs G v) : OpV C id l G nx df pk (.call { callee := .builtin .len, args := #[x], argTypes := #[t] }) (.imm (.int .i64 xs.length)) [] := by
  obtain ⟨vs, h1, h2⟩ := ho.elems
  exact O.len (m := xs.length) hx (by rw [hl]; simp [lenA, h1, h2])

/-- append to a slice of the call's own of what reads as data. -/
theorem R.appOwnV {x y : Operand} {t u d' e lo hi : Nat} {k ke : TyI} {xs ys : List IV} {ws : List AV} {w : AV} [hk : TyIs C t k] (ht : k.d = .sl e) [he : TyIs C e ke] (hu : Nat.beq t u = true) (hx : lookO l x = some v) (ho : OwnV d' e ke.sz lo hi xs G v) (hy : lookO l y = some w) (hw : elems G w = some ws)
    (hs : 0 < ke.sz) (hb : ke.bytes ≤ 4096) (hz : ke.zero.fits ke.sz = true) (hys : ws.all (AV.fits ke.sz) = true) (hm : xs.length + ws.length ≤ most) (hid : lo ≤ hi ∧ hi ≤ base + i) (hi2 : ∀ G', (∀ o, o < hi → lo ≤ o ∨ G' o = G o) → (∀ o, hi ≤ o → o ≠ base + i → G' o = G o) → All2 (Rdx d' G' (fun o => hi ≤ o ∧ o < base + i)) ws ys) (hd : Nat.ble (d + 1) nt = true)
    (next : ∀ v' G', OwnV d' e ke.sz lo (base + i + 1) (xs ++ ys) G' v' → (∀ o, o < lo → G' o = G o) → (∀ o, hi ≤ o → o < base + i → G' o = G o) → R C nt ol base (i + 1) r ((d, v') :: l) G' nx df pk Φ) :
    R C nt ol base i (⟨some d, .call { callee := .builtin .append, args := #[x, y], argTypes := #[t, u] }, ty, pos, af, none⟩ :: r) l G nx df pk Φ := by
  rcases ho with ⟨rfl, rfl⟩ | ⟨o, vs, h1, h2, rfl, hG, ha⟩
  · refine R.op1 (O.appNil ht hu hx hy hw hs hb hz hys (by simpa using hm)) hd (next _ _ (.inr ⟨base + i, ws, by omega, by omega, rfl, upd_same .., ?_⟩) (fun o ho => upd_ne _ _ _ _ (by omega)) fun o h1 h2 => upd_ne _ _ _ _ (by omega))
    exact (hi2 (upd G (base + i) (.row e ke.sz ws false)) (fun o h => .inr (upd_ne _ _ _ _ (by omega))) fun o h h' => upd_ne _ _ _ _ h').imp fun _ _ h => h.frame (fun _ _ => rfl) fun i hi => ⟨by omega, by omega, by omega⟩
  · refine R.op1 (O.appRow ht hu hx hG rfl hy hw hs hb hz hys (by rw [ha.length]; exact hm)) hd (next _ _ (.inr ⟨o, vs ++ ws, h1, by omega, rfl, upd_same .., ?_⟩) (fun o' ho => upd_ne _ _ _ _ (by omega)) fun o' h1 h2 => upd_ne _ _ _ _ (by omega))
    refine (ha.imp fun _ _ h => h.frame (fun i hi => upd_ne _ _ _ _ hi.2.2) fun i hi => ⟨hi.1, by omega, hi.2.2⟩).append ?_
    refine (hi2 (upd G o (.row e ke.sz (vs ++ ws) false)) (fun o' h => ?_) fun o' h h' => upd_ne _ _ _ _ (by omega)).imp fun _ _ h => h.frame (fun _ _ => rfl) fun i hi => ⟨by omega, by omega, by omega⟩
    by_cases h' : o' = o
    · exact .inl (by omega)
    · exact .inr (upd_ne _ _ _ _ h')

theorem O.makeSlice {t e : TypeId} {x y : Operand} {k ke : TyI} {kk kk' : IntKind} {m n : Int} [hk : TyIs C t k] (ht : k.d = .sl e) (he : TyIs C e ke) (hx : lookO l x = some (.imm (.int kk m))) (hy : lookO l y = some (.imm (.int kk' n))) (h0 : 0 ≤ m ∧ m ≤ n ∧ n ≤ most) (hb : ke.bytes ≤ 4096) (hz : ke.zero.fits ke.sz = true) (hs : 0 < ke.sz) :
    OpV C id l G nx df pk (.makeSlice t x y) (.row id m.toNat) [(id, .set (.row e ke.sz (List.replicate m.toNat ke.zero) false))] :=
  O.of fun t' L hA => by
    simp only [opA, hA.ev hx, hA.ev hy, aMakeSlice, hk.is, ht, he.is]
    rw [if_pos ⟨h0.1, h0.2.1, h0.2.2, hb, hz, hs⟩]
/-- A store to an element of one cell of a row. -/
theorem O.storeR {a x : Operand} {t et sz : TypeId} {k : TyI} {o m n : Nat} {vs : List AV} {u : AV} [hk : TyIs C t k] (hs : k.sz = 1) (ha : lookO l a = some (.rptr o m n 0)) (hx : lookO l x = some v) (hf : v.fits 1 = true) (hG : G o = .row et sz vs false) (hm : vs.length = m) (hu : vs[n]? = some u) (huc : Nat.ble 1 u.cells.length = true) (hv : avOf u (splice u.cells 0 v.cells) = v) :
    OpV C id l G nx df pk (.store t a x) .undef [(o, .set (.row et sz (vs.set n v) false))] :=
  O.of fun t' L hA => by
    simp only [opA, hA.ev ha, hA.ev hx, aStore, hk.is, hs, hf, if_true, hG, hu]
    rw [if_pos ⟨hm, by decide, by have := Nat.le_of_ble_eq_true huc; omega⟩, hv]
end Go.Abs
