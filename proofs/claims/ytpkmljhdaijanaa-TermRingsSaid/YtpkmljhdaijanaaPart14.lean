/- The reference: on which sources a definition depends. -/
import Derived.Test.YtpkmljhdaijanaaPart13
open Go Go.Abs
namespace Go.Abs
set_option maxRecDepth 100000
set_option maxHeartbeats 4000000
instance fnis51 : FnIs CC 51 := ⟨rfl, fun _ => rfl⟩

mutual
theorem expR_src (srcs defs : List Str) (ahead : Nat) : ∀ (e : Exp) (depth left : Int), 0 ≤ expR srcs defs ahead e depth left → ∀ x ∈ allE e, x.op = 1 → x.name ∈ srcs
  | .mk op name n fold calcs kids, depth, left, h, x, hx, ho => by
    rw [expR] at h
    rw [allE] at hx
    cases hs : shapeR op with
    | none => rw [hs] at h; simp at h
    | some s =>
      rw [hs] at h
      dsimp only at h
      split at h
      · omega
      · split at h
        · rename_i hh
          split at h
          · omega
          · rcases List.mem_cons.1 hx with he | hx
            · rw [he] at ho ⊢
              have ho : op = 1 := ho
              unfold headIs at hh
              simp only [Bool.and_eq_true] at hh
              have hni := hh.2
              rw [ho] at hni
              have : srcs.contains name = true := hni
              show name ∈ srcs
              simpa using this
            · exact expRs_src srcs defs ahead kids depth left _ h x hx ho
        · omega
theorem expRs_src (srcs defs : List Str) (ahead : Nat) : ∀ (l : List Exp) (depth left n : Int), 0 ≤ expRs srcs defs ahead l depth left n → ∀ x ∈ allEs l, x.op = 1 → x.name ∈ srcs
  | [], _, _, _, _, x, hx, _ => by cases hx
  | k :: r, depth, left, n, h, x, hx, ho => by
    rw [expRs] at h
    rw [allEs] at hx
    split at h
    · omega
    · rcases List.mem_append.1 hx with hx | hx
      · exact expR_src srcs defs ahead k (depth + 1) (left - n) (by omega) x hx ho
      · exact expRs_src srcs defs ahead r depth left _ h x hx ho
end
theorem countL_src (srcs names : List Str) : ∀ (ds : List Dfn) (i : Nat) (n : Int), 0 ≤ countL srcs names ds i n → ∀ d ∈ ds, ∀ x ∈ allE d.exp, x.op = 1 → x.name ∈ srcs
  | [], _, _, _, d, hd => by cases hd
  | k :: r, i, n, h, d, hd => by
    rw [countL] at h
    split at h
    · omega
    · rcases List.mem_cons.1 hd with hk | hd
      · rw [hk]; exact expR_src srcs names i k.exp 1 (60 - n) (by omega)
      · exact countL_src srcs names r (i + 1) _ h d hd
theorem countR_src {p : Pgm} (h : 0 ≤ countR p) : ∀ d ∈ p.defs, ∀ x ∈ allE d.exp, x.op = 1 → x.name ∈ p.srcs := by
  unfold countR at h
  split at h
  · omega
  · split at h
    · exact countL_src _ _ _ _ _ h
    · omega

/-- A node is the source with a number. -/
def srcIs (srcs : List Str) (x : Exp) (s : Nat) : Prop := x.op = 1 ∧ idxN srcs x.name = s
/-- Some of the first definitions that one depends on names the source with a number. -/
def SrcTo (srcs : List Str) (defs : List Dfn) (tos : List (List Nat)) (d i s : Nat) : Prop := ∃ i' y, i' < i ∧ defs[i']? = some y ∧ (i' = d ∨ Reach tos d i') ∧ ∃ x ∈ allE y.exp, srcIs srcs x s
open Classical in
noncomputable def SrcB (srcs : List Str) (defs : List Dfn) (tos : List (List Nat)) (d i s : Nat) : Bool := decide (SrcTo srcs defs tos d i s)
theorem SrcB_iff {srcs : List Str} {defs : List Dfn} {tos : List (List Nat)} {d i s : Nat} : SrcB srcs defs tos d i s = true ↔ SrcTo srcs defs tos d i s := by unfold SrcB; simp
noncomputable def srcsR (p : Pgm) (d : Nat) : List Nat := (List.range p.srcs.length).filter (SrcB p.srcs p.defs (tosR p) d p.defs.length)

theorem getD_set {l : List Bool} {i s : Nat} (hi : i < l.length) : (l.set i true).getD s false = (decide (s = i) || l.getD s false) := by
  simp only [List.getD_eq_getElem?_getD, List.getElem?_set]
  by_cases h : i = s
  · subst h; simp [hi]
  · have : ¬ s = i := fun e => h e.symm
    simp [h, this]

theorem ret51 {p : Pgm} (hp : p.Fits) (hc : 0 ≤ countR p) {d : Nat} (hd : d < p.defs.length) : Ret CC 51 [p.iv, natIV d] (natsIV (srcsR p d)) := by
  have hg := countR_good hc
  have hr53 := hg.ret53 hp
  have hsrc := countR_src hc
  have htl : (tosR p).length = p.defs.length := hg.steps.2.1
  have hsz := hg.size
  have hs4 := hg.srcs
  have hd6 := hg.defs
  have hfit := hp.exp
  unfold srcsR
  generalize tosR p = tos at *
  obtain ⟨srcs, defs⟩ := p
  simp only at *
  have hsm : (srcs.map sv).length = srcs.length := List.length_map ..
  have hdm : (defs.map Dfn.iv).length = defs.length := List.length_map ..
  have hrl : ((reachR tos).map boolsIV).length = defs.length := by rw [List.length_map, reachR_len, htl]
  have hrow : ((reachR tos).map boolsIV)[((d : Nat) : Int).toNat]? = some (boolsIV (reachRow tos tos.length d)) := by
    rw [Int.toNat_natCast, List.getElem?_map]
    unfold reachR
    rw [List.getElem?_map, List.getElem?_range (by omega)]; rfl
  have hrat : ∀ i, i < defs.length → ((reachRow tos tos.length d).map IV.bool)[(i : Int).toNat]? = some (.bool (reachB tos d i)) := fun i hi => by
    rw [Int.toNat_natCast, List.getElem?_map]
    unfold reachRow
    rw [List.getElem?_map, List.getElem?_range (by omega)]; rfl
  refine Ret.of (fn := Go.Proofs.Try.f51) (by kernel_rfl) rfl rfl ?_
  refine AA ?_
  refine R.op1 (O.makeSlice (ke := ty4) rfl inferInstance rfl rfl ⟨Int.natCast_nonneg _, Int.le_refl _, by show (((srcs.map sv).length : Nat) : Int) ≤ (most : Int); unfold most; omega⟩ (by decide) rfl (by decide)) rfl ?_
  refine AA ?_
  refine W.loop (X := Nat × List Bool) (fun x => [(1, .imm (natIV d)), (2, .ptr 0 0), (5, .imm (.lst ((reachR tos).map boolsIV))), (6, .row 8 (srcs.map sv).length), (7, .imm (.int .i64 x.1))])
    (fun x nx G => 10 ≤ nx ∧ G 0 = .box [.imm (.lst (srcs.map sv)), .imm (.lst (defs.map Dfn.iv))] false ∧ G 8 = .row 4 1 (x.2.map fun b => .imm (.bool b)) false ∧ x.1 ≤ defs.length ∧ x.2.length = srcs.length ∧ ∀ s, s < srcs.length → (x.2.getD s false = true ↔ SrcTo srcs defs tos d x.1 s))
    (fun x => defs.length - x.1) (0, List.replicate srcs.length false) .auto ⟨by omega, rfl, ?_, Nat.zero_le _, by simp, ?_⟩ ?_
  · show Obj.row 4 1 (List.replicate (srcs.map sv).length _) false = _
    rw [hsm, List.map_replicate]; rfl
  · intro s hs
    simp only [List.getD_eq_getElem?_getD, List.getElem?_replicate]
    constructor
    · intro h; split at h <;> simp at h
    · rintro ⟨i', y, h, _⟩; omega
  rintro ⟨i, on⟩ nx G ⟨hnx, hG0, hG8, hi, hlen, hon⟩
  dsimp only at hG8 hi hlen hon ⊢
  rcases Bool.eq_false_or_eq_true (decide ((i : Int) < ((defs.map Dfn.iv).length : Int))) with hcc | hcc
  · have hlt : i < defs.length := by have := of_decide_eq_true hcc; omega
    obtain ⟨y, hx⟩ := at_lt hlt
    have hxi := at_map Dfn.iv hx
    have hdc := y.cells_len
    have hm := List.mem_of_getElem? hx
    have hys := hsz y hm
    have hr58 := ret58 (hfit y hm) (by omega)
    have hmu : defs.length - (i + 1) < defs.length - i := by omega
    have hsrc := hsrc y hm
    have hri := hrat i hlt
    have hstep : ∀ s, SrcTo srcs defs tos d (i + 1) s ↔ SrcTo srcs defs tos d i s ∨ ((i = d ∨ Reach tos d i) ∧ ∃ x ∈ allE y.exp, srcIs srcs x s) := by
      intro s
      constructor
      · rintro ⟨i', y', h1, h2, h3, h4⟩
        by_cases he : i' = i
        · subst he
          rw [hx] at h2; cases h2
          exact .inr ⟨h3, h4⟩
        · exact .inl ⟨i', y', by omega, h2, h3, h4⟩
      · rintro (⟨i', y', h1, h2, h3, h4⟩ | ⟨h3, h4⟩)
        · exact ⟨i', y', by omega, h2, h3, h4⟩
        · exact ⟨i, y, by omega, hx, h3, h4⟩
    generalize allE y.exp = l at *
    have hlm := ivs_len l
    obtain ⟨nm, ⟨o', s', n', f', c', k'⟩⟩ := y
    refine AA ?_
    refine W.loop (X := Nat × List Bool) (fun x => [(1, .imm (natIV d)), (2, .ptr 0 0), (5, .imm (.lst ((reachR tos).map boolsIV))), (6, .row 8 (srcs.map sv).length), (7, .imm (.int .i64 i)), (8, .imm (.lst (Exp.ivs l))), (9, .imm (.int .i64 x.1))])
      (fun x nx G => 10 ≤ nx ∧ G 0 = .box [.imm (.lst (srcs.map sv)), .imm (.lst (defs.map Dfn.iv))] false ∧ G 8 = .row 4 1 (x.2.map fun b => .imm (.bool b)) false ∧ x.1 ≤ l.length ∧ x.2.length = srcs.length ∧
        ∀ s, s < srcs.length → (x.2.getD s false = true ↔ SrcTo srcs defs tos d i s ∨ ((i = d ∨ Reach tos d i) ∧ ∃ z ∈ l.take x.1, srcIs srcs z s)))
      (fun x => l.length - x.1) (0, on) .auto ⟨by omega, hG0, hG8, Nat.zero_le _, hlen, fun s hs => by rw [hon s hs]; simp⟩ ?_
    clear hG0 hG8 hlen hon
    rintro ⟨k, on⟩ nx2 G ⟨hnx2, hG0, hG8, hk, hlen, hon⟩
    dsimp only at hG8 hk hlen hon ⊢
    have hall : l.length ≤ k ∨ ¬ (i = d ∨ Reach tos d i) → ∀ s, s < srcs.length → (on.getD s false = true ↔ SrcTo srcs defs tos d (i + 1) s) := by
      intro h s hs
      rw [hon s hs, hstep s]
      rcases h with h | h
      · rw [List.take_of_length_le h]
      · simp [h]
    rcases Bool.eq_false_or_eq_true (decide ((k : Int) < ((Exp.ivs l).length : Int))) with hkc | hkc
    · have hkl : k < l.length := by have := of_decide_eq_true hkc; omega
      obtain ⟨x, hxk⟩ := at_lt hkl
      have hxki := ivs_at hxk
      have hxc := x.cells_len
      have hmu2 : l.length - (k + 1) < l.length - k := by omega
      have hr69 := ret69 srcs x.name (by omega)
      have hnm : x.op = 1 → idxFrom srcs x.name 0 = ((idxN srcs x.name : Nat) : Int) ∧ idxN srcs x.name < srcs.length := fun h => by
        have := hsrc x (List.mem_of_getElem? hxk) h
        exact ⟨by rw [idxFrom_idxN this]; simp, idxN_lt this⟩
      have htake : ∀ s, (∃ z ∈ l.take (k + 1), srcIs srcs z s) ↔ (∃ z ∈ l.take k, srcIs srcs z s) ∨ srcIs srcs x s := by
        intro s
        rw [List.take_add_one, hxk]
        simp only [List.mem_append, Option.mem_toList]
        constructor
        · rintro ⟨z, h | h, h2⟩
          · exact .inl ⟨z, h, h2⟩
          · cases h; exact .inr h2
        · rintro (⟨z, h, h2⟩ | h)
          · exact ⟨z, .inl h, h2⟩
          · exact ⟨x, .inr rfl, h⟩
      have hopx : x.op = x.op := rfl
      have hsel : (i = d ∨ Reach tos d i) → ∀ {on' : List Bool}, (∀ s, s < srcs.length → (on'.getD s false = true ↔ on.getD s false = true ∨ srcIs srcs x s)) → ∀ s, s < srcs.length → (on'.getD s false = true ↔ SrcTo srcs defs tos d i s ∨ ((i = d ∨ Reach tos d i) ∧ ∃ z ∈ l.take (k + 1), srcIs srcs z s)) := by
        intro h on' h2 s hs
        rw [h2 s hs, hon s hs, htake s]
        simp only [h, true_and, or_assoc]
      have hno : x.op ≠ 1 → ∀ s, s < srcs.length → (on.getD s false = true ↔ on.getD s false = true ∨ srcIs srcs x s) := fun h s _ => ⟨.inl, fun h' => h'.elim id fun h' => absurd h'.1 h⟩
      obtain ⟨op, name, n2, fold, calcs, kids⟩ := x
      have hopn : (Exp.mk op name n2 fold calcs kids).op = op := rfl
      have hnmn : (Exp.mk op name n2 fold calcs kids).name = name := rfl
      rw [hnmn] at hr69 hnm
      rw [hopn] at hnm hno
      have hcase : ((((i : Nat) : Int) == ((d : Nat) : Int)) = true ∨ ((((i : Nat) : Int) == ((d : Nat) : Int)) = false ∧ reachB tos d i = true)) ∨ ((((i : Nat) : Int) == ((d : Nat) : Int)) = false ∧ reachB tos d i = false) := by
        cases (((i : Nat) : Int) == ((d : Nat) : Int)) <;> cases reachB tos d i <;> simp
      rcases hcase with hyes | ⟨hid, hrb⟩
      · have hs : (i = d ∨ Reach tos d i) := by
          rcases hyes with h | ⟨_, h⟩
          · exact .inl (by simp at h; omega)
          · exact .inr (reachB_iff.1 h)
        have hsel := @hsel hs
        rcases Bool.eq_false_or_eq_true (op == 1) with hop | hop
        · have hop1 : op = 1 := by simpa using hop
          obtain ⟨hn1, hn2⟩ := hnm hop1
          rw [hn1] at hr69
          have hset := hsel (on' := on.set (idxN srcs name) true) fun s hs => by
            rw [getD_set (by omega)]
            simp only [Bool.or_eq_true, decide_eq_true_eq]
            unfold srcIs
            rw [hopn, hnmn]
            constructor
            · rintro (h | h)
              · exact .inr ⟨hop1, h.symm⟩
              · exact .inl h
            · rintro (h | ⟨_, h⟩)
              · exact .inr h
              · exact .inl h.symm
          rcases hyes with hid | ⟨hid, hrb⟩
          all_goals
            refine AA ?_
            refine D.op0 (O.addrR rfl rfl rfl at_upd (by simp [hlen]) ⟨Int.natCast_nonneg _, by rw [hsm]; exact Int.ofNat_lt.2 hn2⟩ rfl) rfl rfl ?_
            refine D.opN1 (O.storeR (v := .imm (.bool true)) rfl rfl rfl rfl at_upd (by simp [hlen]) (u := .imm (.bool (on.getD (idxN srcs name) false))) (by rw [Int.toNat_natCast]; simp [List.getD_eq_getElem?_getD, hlen, hn2]) rfl rfl) rfl ?_
            refine D.skip (by kernel_rfl) ?_
            refine AA ?_
            refine W.skipLop (k + 1, on.set (idxN srcs name) true) hmu2 .auto ⟨by omega, at_upd, ?_, hkl, by simp [hlen], hset⟩
            refine (upd_same _ _ _).trans ?_
            rw [Int.toNat_natCast, List.map_set]
        · have hset := hsel (hno (by simpa using hop))
          rcases hyes with hid | ⟨hid, hrb⟩
          all_goals
            refine AA ?_
            exact W.skipLop (k + 1, on) hmu2 .auto ⟨by omega, hG0, hG8, hkl, hlen, hset⟩
      · have hs : ¬ (i = d ∨ Reach tos d i) := by
          rintro (h | h)
          · subst h; simp at hid
          · rw [reachB_iff.2 h] at hrb; cases hrb
        refine AA ?_
        exact W.skipLop (i + 1, on) hmu .auto ⟨by omega, hG0, hG8, hlt, hlen, hall (.inr hs)⟩
    · have hge : l.length ≤ k := by have := of_decide_eq_false hkc; omega
      refine AA ?_
      exact W.skipLop (i + 1, on) hmu .auto ⟨by omega, hG0, hG8, hlt, hlen, hall (.inl hge)⟩
  · have hge : defs.length ≤ i := by have := of_decide_eq_false hcc; omega
    have he : i = defs.length := by omega
    subst he
    have hfin : numsB on = (List.range srcs.length).filter (SrcB srcs defs tos d defs.length) := by
      unfold numsB
      rw [hlen]
      apply List.filter_congr
      intro s hs
      rw [List.mem_range] at hs
      rw [Bool.eq_iff_iff, hon s hs, SrcB_iff]
    have hr52 := ret52 (l := on) (by omega)
    rw [hfin] at hr52
    refine AA ?_
    obtain ⟨ids, hids⟩ := peeks_row (xs := on.map IV.bool) (n := (srcs.map sv).length) (by rw [List.map_map]; exact hG8) (by simp [hlen])
    refine R.opU (O.callFz rfl hids hr52 rfl) rfl ?_
    refine AA ?_
    exact W.retFin1 rfl ⟨[], rfl⟩
end Go.Abs

/- TermParts: depths. -/
open Go Go.Abs
namespace Go.Abs
set_option maxRecDepth 100000
set_option maxHeartbeats 4000000

mutual
/-- How deep an expression is. -/
def depthE : Exp → Int
  | .mk _ _ _ _ _ kids => depthEs kids 0 + 1
def depthEs : List Exp → Int → Int
  | [], n => n
  | k :: r, n => depthEs r (if depthE k > n then depthE k else n)
end
mutual
theorem depthE_le : ∀ e : Exp, 1 ≤ depthE e ∧ depthE e ≤ ((allE e).length : Int)
  | .mk _ _ _ _ _ kids => by
    rw [depthE, allE]
    have := depthEs_le kids 0 (by omega)
    simp only [List.length_cons]
    omega
theorem depthEs_le : ∀ (l : List Exp) (n : Int), 0 ≤ n → 0 ≤ depthEs l n ∧ depthEs l n ≤ n + ((allEs l).length : Int)
  | [], n, h => by rw [depthEs, allEs]; simp; omega
  | k :: r, n, h => by
    rw [depthEs, allEs]
    have h1 := depthE_le k
    have h2 := depthEs_le r (if depthE k > n then depthE k else n) (by split <;> omega)
    simp only [List.length_append]
    split at h2 <;> rename_i h3
    · rw [if_pos h3]; omega
    · rw [if_neg h3]; omega
end
theorem depthEs_drop {kids : List Exp} {k : Exp} {i : Nat} (h : kids[i]? = some k) (n : Int) : depthEs (kids.drop i) n = depthEs (kids.drop (i + 1)) (if depthE k > n then depthE k else n) := by
  have : kids.drop i = k :: kids.drop (i + 1) := by
    rw [List.getElem?_eq_some_iff] at h
    obtain ⟨hi, rfl⟩ := h
    exact List.drop_eq_getElem_cons hi
  rw [this, depthEs]
theorem allE_kid {kids : List Exp} {k : Exp} (h : k ∈ kids) : (allE k).length ≤ (allEs kids).length := by
  obtain ⟨i, hi⟩ := List.mem_iff_getElem?.1 h
  rw [allEs_split hi]; simp; omega

theorem ret66 {e : Exp} (hf : e.Fits) : (allE e).length ≤ 1000 → Ret CC 66 [e.iv] (.int .i64 (depthE e)) := by
  induction hf with
  | mk op name n fold calcs kids hnm hw hc hk hcs hks ih =>
  intro hsz
  rw [allE] at hsz
  simp only [List.length_cons] at hsz
  have hlk := ivs_len kids
  have hk' : kids.length ≤ 9223372036854775807 := hk
  refine Ret.of (fn := Go.Proofs.Try.f66) (by kernel_rfl) rfl rfl ?_
  refine AA ?_
  refine W.loop (X := Nat × Int) (fun x => [(7, .imm (.lst (Exp.ivs kids))), (8, .imm (.int .i64 (Exp.ivs kids).length)), (9, .imm (.int .i64 x.1)), (3, .imm (.int .i64 x.2))])
    (fun x nx G => x.1 ≤ kids.length ∧ (0 ≤ x.2 ∧ x.2 ≤ 1000) ∧ depthE (.mk op name n fold calcs kids) = depthEs (kids.drop x.1) x.2 + 1)
    (fun x => kids.length - x.1) (0, 0) .auto ⟨Nat.zero_le _, by decide, by rw [depthE]; rfl⟩ ?_
  rintro ⟨i, m⟩ nx G ⟨hi, hm, he⟩
  dsimp only at hi hm he ⊢
  rcases Bool.eq_false_or_eq_true (decide ((i : Int) < ((Exp.ivs kids).length : Int))) with hc | hc
  · have hlt : i < kids.length := by have := of_decide_eq_true hc; omega
    obtain ⟨d, hx⟩ := at_lt hlt
    have hxi := ivs_at hx
    have hdc := d.cells_len
    have hmu : kids.length - (i + 1) < kids.length - i := by omega
    have hle := allE_kid (List.mem_of_getElem? hx)
    have hr := ih d (List.mem_of_getElem? hx) (by omega)
    have hdl := depthE_le d
    rw [depthEs_drop hx] at he
    obtain ⟨o', s', m', f', c', k'⟩ := d
    refine AA ?_
    refine W.skipLop (i + 1, if depthE (.mk o' s' m' f' c' k') > m then depthE (.mk o' s' m' f' c' k') else m) hmu .auto ⟨hlt, ?_, he⟩
    dsimp only
    split <;> omega
  · have hge : kids.length ≤ i := by have := of_decide_eq_false hc; omega
    rw [List.drop_eq_nil_of_le hge, depthEs] at he
    rw [he]
    refine AA ?_
    exact W.retFin1 rfl ⟨[], rfl⟩
theorem ret67 {e : Exp} (hf : e.Fits) : (allE e).length ≤ 1000 → Ret CC 67 [e.iv] (.int .i64 (depthE e)) := by
  induction hf with
  | mk op name n fold calcs kids hnm hw hc hk hcs hks ih =>
  intro hsz
  rw [allE] at hsz
  simp only [List.length_cons] at hsz
  have hlk := ivs_len kids
  have hk' : kids.length ≤ 9223372036854775807 := hk
  refine Ret.of (fn := Go.Proofs.Try.f67) (by kernel_rfl) rfl rfl ?_
  refine AA ?_
  refine W.loop (X := Nat × Int) (fun x => [(1, .ptr 0 0), (4, .imm (.int .i64 x.1)), (3, .imm (.int .i64 x.2))])
    (fun x nx G => G 0 = .box [.imm (.int .i64 op), .imm (sv name), .imm (.int .i64 n), .imm (.int .i64 fold), .imm (.lst (Trm.ivs calcs)), .imm (.lst (Exp.ivs kids))] false ∧ x.1 ≤ kids.length ∧ (0 ≤ x.2 ∧ x.2 ≤ 1000) ∧ depthE (.mk op name n fold calcs kids) = depthEs (kids.drop x.1) x.2 + 1)
    (fun x => kids.length - x.1) (0, 0) .auto ⟨rfl, Nat.zero_le _, by decide, by rw [depthE]; rfl⟩ ?_
  rintro ⟨i, m⟩ nx G ⟨hG, hi, hm, he⟩
  dsimp only at hi hm he ⊢
  rcases Bool.eq_false_or_eq_true (decide ((i : Int) < ((Exp.ivs kids).length : Int))) with hc | hc
  · have hlt : i < kids.length := by have := of_decide_eq_true hc; omega
    obtain ⟨d, hx⟩ := at_lt hlt
    have hxi := ivs_at hx
    have hdc := d.cells_len
    have hmu : kids.length - (i + 1) < kids.length - i := by omega
    have hle := allE_kid (List.mem_of_getElem? hx)
    have hr := ih d (List.mem_of_getElem? hx) (by omega)
    have hdl := depthE_le d
    rw [depthEs_drop hx] at he
    obtain ⟨o', s', m', f', c', k'⟩ := d
    refine AA ?_
    refine W.skipLop (i + 1, if depthE (.mk o' s' m' f' c' k') > m then depthE (.mk o' s' m' f' c' k') else m) hmu .auto ⟨hG, hlt, ?_, he⟩
    dsimp only
    split <;> omega
  · have hge : kids.length ≤ i := by have := of_decide_eq_false hc; omega
    rw [List.drop_eq_nil_of_le hge, depthEs] at he
    rw [he]
    refine AA ?_
    exact W.retFin1 rfl ⟨[], rfl⟩

def depthAt (defs : List Dfn) (d : Int) : Int := match defs[d.toNat]? with
  | some x => depthE x.exp
  | none => 0
noncomputable def depthR (p : Pgm) (d : Int) : Int := if hasR p d then depthAt p.defs d else 0
noncomputable def errR (p : Pgm) (d : Int) : Int := if hasR p d then 0 else 2

theorem ret33 (p : Pgm) (hp : p.Fits) (d : Int) : Ret CC 33 [p.iv, .int .i64 d] (.tup [.int .i64 (depthR p d), .int .i64 (errR p d)]) := by
  have hr := ret46 p hp d
  unfold depthR errR
  have hat := hasR_at (p := p) (d := d)
  have hgd := fun h => (countR_good (p := p) (progR_count h)).size
  have hfit := hp.exp
  generalize lookedIV p = lk at *
  generalize hasR p d = b at *
  generalize progR p = pr at *
  obtain ⟨srcs, defs⟩ := p
  refine Ret.of (fn := Go.Proofs.Try.f33) (by kernel_rfl) rfl rfl ?_
  cases b with
  | true =>
    obtain ⟨hpr, i, x, rfl, hx⟩ := hat rfl
    simp only at hx hfit hgd ⊢
    have hxi := at_map Dfn.iv hx
    have hdc := x.cells_len
    have hm := List.mem_of_getElem? hx
    have hr2 := ret66 (hfit x hm) (by have := hgd hpr x hm; omega)
    have hda : depthAt defs (i : Int) = depthE x.exp := by unfold depthAt; rw [Int.toNat_natCast, hx]
    rw [hda]
    obtain ⟨nm, ⟨o', s', m', f', c', k'⟩⟩ := x
    have bf : (!true) = false := rfl
    refine AA ?_
    exact W.retFin2 rfl rfl ⟨[], rfl⟩
  | false =>
    have bt : (!false) = true := rfl
    refine AA ?_
    exact W.retFin2 rfl rfl ⟨[], rfl⟩
theorem ret34 (p : Pgm) (hp : p.Fits) (d : Int) : Ret CC 34 [p.iv, .int .i64 d] (.tup [.int .i64 (depthR p d), .int .i64 (errR p d)]) := by
  have hr := ret50 p hp d
  unfold depthR errR
  have hat := hasR_at (p := p) (d := d)
  have hgd := fun h => (countR_good (p := p) (progR_count h)).size
  have hfit := hp.exp
  generalize hasR p d = b at *
  generalize progR p = pr at *
  obtain ⟨srcs, defs⟩ := p
  refine Ret.of (fn := Go.Proofs.Try.f34) (by kernel_rfl) rfl rfl ?_
  cases b with
  | true =>
    obtain ⟨hpr, i, x, rfl, hx⟩ := hat rfl
    simp only at hx hfit hgd ⊢
    have hxi := at_map Dfn.iv hx
    have hdc := x.cells_len
    have hm := List.mem_of_getElem? hx
    have hr2 := ret67 (hfit x hm) (by have := hgd hpr x hm; omega)
    have hda : depthAt defs (i : Int) = depthE x.exp := by unfold depthAt; rw [Int.toNat_natCast, hx]
    rw [hda]
    obtain ⟨nm, ⟨o', s', m', f', c', k'⟩⟩ := x
    have bf : (!true) = false := rfl
    refine AA ?_
    exact W.retFin2 rfl rfl ⟨[], rfl⟩
  | false =>
    have bt : (!false) = true := rfl
    refine AA ?_
    exact W.retFin2 rfl rfl ⟨[], rfl⟩
end Go.Abs

/- What definitions depend on. -/
open Go Go.Abs
namespace Go.Abs
set_option maxRecDepth 100000
set_option maxHeartbeats 4000000
instance fnis15 : FnIs CC 15 := ⟨rfl, fun _ => rfl⟩
instance fnis16 : FnIs CC 16 := ⟨rfl, fun _ => rfl⟩
instance fnis17 : FnIs CC 17 := ⟨rfl, fun _ => rfl⟩
instance fnis18 : FnIs CC 18 := ⟨rfl, fun _ => rfl⟩

noncomputable def reachN (p : Pgm) (d : Nat) : List Nat := (List.range p.defs.length).filter (reachB (tosR p) d)
noncomputable def srcsA (p : Pgm) (d : Int) : List Nat := if hasR p d then srcsR p d.toNat else []
noncomputable def reachA (p : Pgm) (d : Int) : List Nat := if hasR p d then reachN p d.toNat else []
noncomputable def ringsA (p : Pgm) : List (List Nat) := if progR p then ringsOf p else []

theorem numsB_row {tos : List (List Nat)} {d : Nat} : numsB (reachRow tos tos.length d) = (List.range tos.length).filter (reachB tos d) := by
  unfold numsB
  have hl : (reachRow tos tos.length d).length = tos.length := by simp [reachRow]
  rw [hl]
  apply List.filter_congr
  intro i hi
  rw [List.mem_range] at hi
  unfold reachRow
  simp [List.getD_eq_getElem?_getD, hi]

theorem ret16 (p : Pgm) (hp : p.Fits) (d : Int) : Ret CC 16 [p.iv, .int .i64 d] (.tup [natsIV (srcsA p d), natsIV (reachA p d), .int .i64 (errR p d)]) := by
  have hr := ret50 p hp d
  unfold srcsA reachA errR
  have hat := hasR_at (p := p) (d := d)
  cases hb : hasR p d with
  | true =>
    rw [hb] at hr hat
    obtain ⟨hpr, i, x, rfl, hx⟩ := hat rfl
    have hc := progR_count hpr
    have hg := countR_good hc
    have htl : (tosR p).length = p.defs.length := hg.steps.2.1
    have hi : i < p.defs.length := (List.getElem?_eq_some_iff.1 hx).1
    have hr51 := ret51 hp hc hi
    have hr53 := hg.ret53 hp
    have hr52 := ret52 (l := reachRow (tosR p) (tosR p).length i) (by have := hg.defs; simp [reachRow]; omega)
    rw [numsB_row, htl] at hr52
    have hrow : ((reachR (tosR p)).map boolsIV)[((i : Nat) : Int).toNat]? = some (boolsIV (reachRow (tosR p) p.defs.length i)) := by
      rw [Int.toNat_natCast, List.getElem?_map]
      unfold reachR
      rw [List.getElem?_map, List.getElem?_range (by omega), htl]; rfl
    simp only [if_true, Int.toNat_natCast]
    unfold reachN
    generalize srcsR p i = sr at *
    generalize reachRow (tosR p) p.defs.length i = row at *
    generalize (List.range p.defs.length).filter (reachB (tosR p) i) = rn at *
    have bf : (!true) = false := rfl
    obtain ⟨srcs, defs⟩ := p
    refine Ret.of (fn := Go.Proofs.Try.f16) (by kernel_rfl) rfl rfl ?_
    refine AA ?_
    refine W.retFin rfl rfl ⟨[], rfl⟩
  | false =>
    rw [hb] at hr
    have bt : (!false) = true := rfl
    obtain ⟨srcs, defs⟩ := p
    refine Ret.of (fn := Go.Proofs.Try.f16) (by kernel_rfl) rfl rfl ?_
    refine AA ?_
    exact W.retFin rfl rfl ⟨[], rfl⟩

theorem ret18 (p : Pgm) (hp : p.Fits) : Ret CC 18 [p.iv] (.tup [.lst ((ringsA p).map natsIV), .int .i64 (if progR p then 0 else 2)]) := by
  have hr := ret36 p hp
  unfold ringsA
  cases hb : progR p with
  | true =>
    rw [hb] at hr
    have hr55 := (countR_good (progR_count hb)).ret55 hp
    simp only [if_true]
    generalize ringsOf p = rings at *
    have bf : (!true) = false := rfl
    obtain ⟨srcs, defs⟩ := p
    refine Ret.of (fn := Go.Proofs.Try.f18) (by kernel_rfl) rfl rfl ?_
    refine AA ?_
    exact W.retFin2 rfl rfl ⟨[], rfl⟩
  | false =>
    rw [hb] at hr
    have bt : (!false) = true := rfl
    obtain ⟨srcs, defs⟩ := p
    refine Ret.of (fn := Go.Proofs.Try.f18) (by kernel_rfl) rfl rfl ?_
    refine AA ?_
    exact W.retFin2 rfl rfl ⟨[], rfl⟩

/-! ### sets -/
def addN (l : List Nat) (k : Nat) : List Nat := if l.contains k then l else l ++ [k]
theorem addN_mem {l : List Nat} {k x : Nat} : x ∈ addN l k ↔ x ∈ l ∨ x = k := by
  unfold addN
  split
  · rename_i h
    constructor
    · exact .inl
    · rintro (h' | rfl)
      · exact h'
      · simpa using h
  · simp
theorem addN_nodup {l : List Nat} {k : Nat} (h : l.Nodup) : (addN l k).Nodup := by
  unfold addN
  split
  · exact h
  · rename_i h'
    rw [List.nodup_append]
    exact ⟨h, by simp, fun a ha b hb => by rw [List.mem_singleton.1 hb]; exact fun e => h' (by simpa [e] using ha)⟩
theorem O.setPut {id : Nat} {l : Env} {G : Nat → Obj} {nx : Nat} {df : List (AV × List AV)} {pk : Pk} {m x y : Operand} {q k : Nat} {s : List Nat} (hm : lookO l m = some (.map q)) (hx : lookO l x = some (.imm (natIV k))) (hy : lookO l y = some (.imm (.bool true))) (hG : G q = setObj s) :
    OpV CC id l G nx df pk (.mapUpdate 74 m x y) .undef [(q, .set (setObj (addN s k)))] := by
  unfold addN
  cases hc : s.contains k with
  | false =>
    rw [if_neg (by decide), setObj_add]
    exact O.mapNew (k := ty74) (kk := ty3) rfl inferInstance hm hx hy hG rfl (setNew hc)
  | true =>
    rw [if_pos rfl]
    have hsome := findIdx_contains' k s
    rw [hc] at hsome
    obtain ⟨j, hj⟩ := Option.isSome_iff_exists.1 hsome
    have hlt := findIdx_lt' hj
    have hkj : s[j]? = some k := by
      rw [List.findIdx?_eq_some_iff_getElem] at hj
      obtain ⟨h1, h2, _⟩ := hj
      rw [List.getElem?_eq_getElem h1]
      have : k = s[j] := by simpa using h2
      rw [← this]
    have h1 : (s.map natIV).set j (natIV k) = s.map natIV := by
      rw [← List.map_set]
      congr 1
      apply List.ext_getElem?
      intro i
      rw [List.getElem?_set]
      split
      · rename_i he; subst he; rw [hkj]; try simp [hlt]
      · rfl
    have h2 : ((s.map fun _ => IV.bool true).map AV.imm).set j (.imm (.bool true)) = (s.map fun _ => IV.bool true).map AV.imm := by
      apply List.ext_getElem?
      intro i
      rw [List.getElem?_set]
      split
      · rename_i he; subst he; simp [hlt]
      · rfl
    refine O.of fun t' L hA => ?_
    have hkt := (inferInstance : TyIs CC 74 ty74).is
    have hkt3 := (inferInstance : TyIs CC 3 ty3).is
    simp only [opA, hA.ev hm, hA.ev hx, hA.ev hy, aMapUpdate, hkt, hG, setObj, show ty74.d = .mp 3 4 from rfl, hkt3]
    rw [if_pos (show keyOk ty3.d (natIV k) = true from rfl), natKey, hj]
    simp only [h1, h2]
theorem orcSet {l : List Nat} {n : Nat} {P : Nat → Bool} (hn : l.Nodup) (hb : ∀ x ∈ l, x < n) (hP : ∀ x, x < n → (P x = true ↔ x ∈ l)) (hs : l.length ≤ 4294967296) : CC.orc 48 [setIV l] = some (.own 3 1 (((List.range n).filter P).map natIV)) := by
  show (if (l.map natIV).all isIntIV = true ∧ (l.map natIV).length ≤ 4294967296 then some (OrcR.own 3 1 ((isort (ints (l.map natIV))).map (.int .i64))) else none) = _
  rw [if_pos ⟨natKeys_int l, by simpa using hs⟩, sorted_eq hn hb hP]
/-- Some of the first of some definitions names the source with a number. -/
def SrcIn (srcs : List Str) (defs : List Dfn) (L : List Nat) (s : Nat) : Prop := ∃ i ∈ L, ∃ y, defs[i]? = some y ∧ ∃ x ∈ allE y.exp, srcIs srcs x s

theorem ret15 (p : Pgm) (hp : p.Fits) (d : Int) : Ret CC 15 [p.iv, .int .i64 d] (.tup [natsIV (srcsA p d), natsIV (reachA p d), .int .i64 (errR p d)]) := by
  have hr := ret46 p hp d
  unfold srcsA reachA errR
  have hat := hasR_at (p := p) (d := d)
  cases hb : hasR p d with
  | true =>
    rw [hb] at hr hat
    obtain ⟨hpr, d, y, rfl, hy⟩ := hat rfl
    have hc := progR_count hpr
    have hg := countR_good hc
    have htl : (tosR p).length = p.defs.length := hg.steps.2.1
    have hi : d < p.defs.length := (List.getElem?_eq_some_iff.1 hy).1
    have hlk : lookedIV p = scopeIV p ((p.defs.length - 1 : Nat) : Int) (countR p) := by unfold lookedIV; rw [hpr]; rfl
    rw [hlk] at hr
    obtain ⟨out, ho1, ho2, ho3, hr47⟩ := ret47 hp hg.tos ((p.defs.length - 1 : Nat) : Int) (countR p) (d := d) (by rw [htl]; exact hi)
    have hsrc := countR_src hc
    have hd6 := hg.defs
    have hs4 := hg.srcs
    have hfit := hp.exp
    have holen := nodup_lt ho1 ho2
    have horc : CC.orc 48 [setIV out] = some (.own 3 1 ((reachN p d).map natIV)) := orcSet (n := p.defs.length) ho1 (fun x hx => by rw [← htl]; exact ho2 x hx) (fun x hx => by rw [ho3 x, reachB_iff]) (by omega)
    have hrm : ∀ i, i ∈ reachN p d ↔ Reach (tosR p) d i := fun i => by
      unfold reachN
      rw [List.mem_filter, List.mem_range, reachB_iff]
      exact ⟨fun h => h.2, fun h => ⟨by rw [← htl]; exact ho2 i ((ho3 i).2 h), h⟩⟩
    have hrl : (reachN p d).length ≤ 6 := by
      have := List.length_filter_le (reachB (tosR p) d) (List.range p.defs.length)
      rw [List.length_range] at this
      unfold reachN; omega
    have hrlt : ∀ i ∈ reachN p d, i < p.defs.length := fun i h => by
      unfold reachN at h
      rw [List.mem_filter, List.mem_range] at h
      exact h.1
    simp only [if_true, Int.toNat_natCast]
    have hsrcs : ∀ s, SrcB p.srcs p.defs (tosR p) d p.defs.length s = true ↔ SrcIn p.srcs p.defs (reachN p d ++ [d]) s := fun s => by
      rw [SrcB_iff]
      constructor
      · rintro ⟨i, z, h1, h2, h3, h4⟩
        refine ⟨i, ?_, z, h2, h4⟩
        rw [List.mem_append, hrm]
        rcases h3 with rfl | h3
        · exact .inr (by simp)
        · exact .inl h3
      · rintro ⟨i, h1, z, h2, h4⟩
        refine ⟨i, z, (List.getElem?_eq_some_iff.1 h2).1, h2, ?_, h4⟩
        rw [List.mem_append, hrm] at h1
        rcases h1 with h1 | h1
        · exact .inr h1
        · exact .inl (by simpa using h1)
    unfold srcsR
    generalize reachN p d = rn at *
    generalize hSB : SrcB p.srcs p.defs (tosR p) d p.defs.length = SB at *
    clear hSB
    generalize ((p.defs.length - 1 : Nat) : Int) = m1 at *
    generalize countR p = m2 at *
    have bf : (!true) = false := rfl
    obtain ⟨srcs, defs⟩ := p
    simp only at *
    have hdm : (defs.map Dfn.iv).length = defs.length := List.length_map ..
    refine Ret.of (fn := Go.Proofs.Try.f15) (by kernel_rfl) rfl rfl ?_
    refine AA ?_
    refine R.op1 (O.callOwnI rfl horc rfl rfl) rfl ?_
    refine AA ?_
    refine R.op1 (O.appRow rfl rfl rfl at_upd (List.length_map ..) rfl (elems_row at_upd rfl) (by decide) (by decide) rfl rfl (by simp only [List.length_map, List.length_cons, List.length_nil, most]; omega)) rfl ?_
    refine R.op0 (O.lenR rfl rfl at_upd rfl) rfl ?_
    refine AA ?_
    have hLl : (((rn.map natIV).map AV.imm) ++ [AV.imm (.int .i64 ((d : Nat) : Int))]).length = (rn ++ [d]).length := by simp
    rw [hLl]
    have hLm : (((rn ++ [d]).map natIV).map AV.imm).length = (rn ++ [d]).length := by simp
    have hLlt : ∀ i ∈ rn ++ [d], i < defs.length := fun i h => by
      rcases List.mem_append.1 h with h | h
      · exact hrlt i h
      · rw [List.mem_singleton.1 h]; exact hi
    have hLn : (rn ++ [d]).length ≤ 7 := by rw [List.length_append]; simp; omega
    have hrow : ((rn.map natIV).map AV.imm) ++ [AV.imm (.int .i64 ((d : Nat) : Int))] = ((rn ++ [d]).map natIV).map AV.imm := by simp; rfl
    rw [hrow]
    generalize rn ++ [d] = L at *
    refine W.loop (X := Nat) (fun j => [(1, .imm (natIV d)), (2, .ptr 0 0), (7, .ptr 10 0), (9, .imm (setIV out)), (10, .ptr 21 0), (31, .row 24 L.length), (32, .imm (.int .i64 L.length)), (33, .imm (.int .i64 j))])
      (fun j nx G => 27 ≤ nx ∧ G 0 = .box [.imm (.lst (srcs.map sv)), .imm (.lst (defs.map Dfn.iv))] false ∧ G 10 = .box [.imm (scopeIV ⟨srcs, defs⟩ m1 m2)] false ∧ G 21 = .box [.map 20] false ∧ G 24 = .row 3 1 ((L.map natIV).map AV.imm) false ∧ j ≤ L.length ∧
        ∃ fm, G 20 = setObj fm ∧ fm.Nodup ∧ (∀ s ∈ fm, s < srcs.length) ∧ ∀ s, s ∈ fm ↔ SrcIn srcs defs (L.take j) s)
      (fun j => L.length - j) 0 .auto ⟨by omega, rfl, rfl, rfl, rfl, Nat.zero_le _, [], rfl, by simp, by simp, fun s => ⟨(fun h => by cases h), (fun ⟨_, h, _⟩ => by cases h)⟩⟩ ?_
    rintro j nx G ⟨hnx, hG0, hG10, hG21, hG24, hj, fm, hG20, hfn, hfb, hfm⟩
    rcases Bool.eq_false_or_eq_true (decide ((j : Int) < (L.length : Int))) with hcc | hcc
    · have hlt : j < L.length := by have := of_decide_eq_true hcc; omega
      obtain ⟨i, hji⟩ := at_lt hlt
      have hjx : ((L.map natIV).map AV.imm)[((j : Nat) : Int).toNat]? = some (.imm (natIV i)) := by rw [Int.toNat_natCast]; simp [hji]
      have hid := hLlt i (List.mem_of_getElem? hji)
      obtain ⟨z, hx⟩ := at_lt hid
      have hxi := at_map Dfn.iv hx
      have hdc := z.cells_len
      have hm := List.mem_of_getElem? hx
      have hf := hfit z hm
      have hsz := hsrc z hm
      have hr49 := ret49 z.exp
      have hmu : L.length - (j + 1) < L.length - j := by omega
      have hstep : ∀ s, SrcIn srcs defs (L.take (j + 1)) s ↔ SrcIn srcs defs (L.take j) s ∨ ∃ x ∈ allE z.exp, srcIs srcs x s := by
        intro s
        rw [List.take_add_one, hji]
        constructor
        · rintro ⟨i', h1, y', h2, h3⟩
          rcases List.mem_append.1 h1 with h1 | h1
          · exact .inl ⟨i', h1, y', h2, h3⟩
          · simp at h1; subst h1
            rw [hx] at h2; cases h2
            exact .inr h3
        · rintro (⟨i', h1, y', h2, h3⟩ | h3)
          · exact ⟨i', by simp [h1], y', h2, h3⟩
          · exact ⟨i, by simp, z, hx, h3⟩
      obtain ⟨nm, ⟨o', s', n', f', c', k'⟩⟩ := z
      simp only at hf hsz hstep
      refine AA ?_
      refine W.nodes _ hf (fun k G1 => (∀ o, o < nx → o ≠ 20 → G1 o = G o) ∧ ∃ fm1, G1 20 = setObj fm1 ∧ fm1.Nodup ∧ (∀ s ∈ fm1, s < srcs.length) ∧ ∀ s, s ∈ fm1 ↔ SrcIn srcs defs (L.take j) s ∨ ∃ x ∈ (allE (.mk o' s' n' f' c' k')).take k, srcIs srcs x s) (fun _ => False) (fun _ _ _ => False)
        rfl rfl rfl rfl rfl ?_ ?_ ?_ ?_ ?_ ?_ ?_
      · rintro k G1 G2 ⟨h1, fm1, h2, h3⟩ hG
        exact ⟨fun o h4 h5 => (hG o (by omega)).trans (h1 o h4 h5), fm1, (hG 20 (by omega)).trans h2, h3⟩
      · intro _ _ h; exact h.elim
      · exact ⟨fun o _ _ => rfl, fm, hG20, hfn, hfb, fun s => by rw [hfm s]; simp⟩
      · rintro q k x G1 nx1 lp0 lp1 Φr hq hxa hn ⟨h1, fm1, h2, h3, h4, h5⟩ hlp next _ _
        have htake : ∀ s, (∃ z ∈ (allE (.mk o' s' n' f' c' k')).take (k + 1), srcIs srcs z s) ↔ (∃ z ∈ (allE (.mk o' s' n' f' c' k')).take k, srcIs srcs z s) ∨ srcIs srcs x s := by
          intro s
          rw [List.take_add_one, hxa]
          simp only [List.mem_append, Option.mem_toList]
          constructor
          · rintro ⟨z, h | h, h2⟩
            · exact .inl ⟨z, h, h2⟩
            · cases h; exact .inr h2
          · rintro (⟨z, h, h2⟩ | h)
            · exact ⟨z, .inl h, h2⟩
            · exact ⟨x, .inr rfl, h⟩
        have hxs := hsz x (List.mem_of_getElem? hxa)
        obtain ⟨op', name', m', fold', calcs', kids'⟩ := x
        have hL1 := numLook0 srcs name'
        refine W.regionN ?_
        refine AQ ?_
        refine R.doneAstQ at_upd ?_
        refine W.gen' (fun G2 => G2 (nx1 + 0) = .box [.imm (.int .i64 op'), .imm (sv name'), .imm (.int .i64 m'), .imm (.int .i64 fold'), .imm (.lst (Trm.ivs calcs')), .imm (.lst (Exp.ivs kids'))] false ∧ G2 q = lp1 ∧ ∀ o, o < nx1 → o ≠ q → G2 o = G1 o) ⟨at_upd, at_upd, fun o _ _ => at_upd⟩ ?_
        rintro G2 ⟨hbx, hlp2, hfr2⟩
        have h20 := (hfr2 20 (by omega) (by omega)).trans h2
        have h10 := (hfr2 10 (by omega) (by omega)).trans ((h1 10 (by omega) (by decide)).trans hG10)
        have h21 := (hfr2 21 (by omega) (by omega)).trans ((h1 21 (by omega) (by decide)).trans hG21)
        rcases Bool.eq_false_or_eq_true (op' == 1) with hop | hop
        · have hop1 : op' = 1 := by simpa using hop
          have hin := hxs hop1
          refine AN ?_
          refine D.opN1 (O.setPut rfl rfl rfl h20) rfl ?_
          refine D.skip (by kernel_rfl) ?_
          refine AN ?_
          refine next (by omega) (fun o g5 g6 => ?_) ⟨fun o g5 g6 => ?_, addN fm1 (idxN srcs name'), upd_same _ _ _, addN_nodup h3, fun s hs => ?_, fun s => ?_⟩ at_upd
          · rw [upd_ne _ _ _ _ (by omega)]; exact hfr2 o g6 (by omega)
          · rw [upd_ne _ _ _ _ g6, hfr2 o (by omega) (by omega), h1 o g5 g6]
          · rcases addN_mem.1 hs with hs | rfl
            · exact h4 s hs
            · exact idxN_lt hin
          · rw [addN_mem, h5 s, htake s, or_assoc]
            have : srcIs srcs (.mk op' name' m' fold' calcs' kids') s ↔ s = idxN srcs name' := ⟨fun h => h.2.symm, fun h => ⟨hop1, h.symm⟩⟩
            rw [this]
        · have hop1 : op' ≠ 1 := by simpa using hop
          refine AN ?_
          refine next (by omega) (fun o g5 g6 => hfr2 o g6 (by omega)) ⟨fun o g5 g6 => ?_, fm1, h20, h3, h4, fun s => ?_⟩ hlp2
          · rw [hfr2 o (by omega) (by omega), h1 o g5 g6]
          · rw [h5 s, htake s]
            have : ¬ srcIs srcs (.mk op' name' m' fold' calcs' kids') s := fun h => hop1 h.1
            simp only [this, or_false]
      · rintro G1 nx1 ⟨h1, fm1, h2, h3, h4, h5⟩ hn
        rw [List.take_length] at h5
        refine AN ?_
        exact W.skipLop (j + 1) hmu .auto ⟨by omega, (h1 0 (by omega) (by decide)).trans hG0, (h1 10 (by omega) (by decide)).trans hG10, (h1 21 (by omega) (by decide)).trans hG21, (h1 24 (by omega) (by decide)).trans hG24, hlt, fm1, h2, h3, h4, fun s => by rw [h5 s, hstep s]⟩
      · intro _ _ h; exact h.elim
      · intro _ _ _ h; exact h.elim
    · have hge : L.length ≤ j := by have := of_decide_eq_false hcc; omega
      rw [List.take_of_length_le hge] at hfm
      have horc2 : CC.orc 48 [setIV fm] = some (.own 3 1 (((List.range srcs.length).filter SB).map natIV)) := orcSet hfn hfb (fun s _ => by rw [hsrcs s, hfm s]) (by have := nodup_lt hfn hfb; omega)
      refine AA ?_
      refine R.opU (O.callOwn rfl horc2 rfl (peeks_cons (vs := []) (peek_mpx hG20))) rfl ?_
      refine R.gen' (fun G2 => G2 (nx + 1 + 1) = .row 3 1 ((((List.range srcs.length).filter SB).map natIV).map .imm) false) (by rw [updL_frz1, if_pos rfl]) ?_
      intro G2 hrow2
      refine AA ?_
      refine R.op1 (O.callOwnI rfl horc rfl rfl) rfl ?_
      refine AA ?_
      refine W.retFin rfl rfl ?_
      refine Rdx.peek (d := 2) (P := fun _ => True) (Rdx.tup (d := 1) (.cons (Rdx.row (d := 0) (e := 3) (sz := 1) (fr := false) ?_ (List.length_map ..) (All2.imms 0 _ _ _) trivial) (.cons (Rdx.row (d := 0) (e := 3) (sz := 1) (fr := false) ?_ (List.length_map ..) (All2.imms 0 _ _ _) trivial) (.cons (.imm ..) .nil)))) (by decide)
      · exact at_upd
      · exact at_upd
  | false =>
    rw [hb] at hr
    unfold lookedIV at hr
    have bt : (!false) = true := rfl
    generalize progR p = pr at *
    generalize ((p.defs.length - 1 : Nat) : Int) = m1 at *
    generalize countR p = m2 at *
    obtain ⟨srcs, defs⟩ := p
    refine Ret.of (fn := Go.Proofs.Try.f15) (by kernel_rfl) rfl rfl ?_
    cases pr with
    | true =>
      rw [if_pos rfl] at hr
      refine AA ?_
      exact W.retFin rfl rfl ⟨[], rfl⟩
    | false =>
      rw [if_neg (by decide)] at hr
      refine AA ?_
      exact W.retFin rfl rfl ⟨[], rfl⟩
end Go.Abs

/- The rings of a program, as the program finds them. -/
open Go Go.Abs
namespace Go.Abs
set_option maxRecDepth 100000
set_option maxHeartbeats 4000000

theorem reachN_mem {p : Pgm} (hg : p.Good) {d i : Nat} : i ∈ reachN p d ↔ i < p.defs.length ∧ Reach (tosR p) d i := by
  unfold reachN
  rw [List.mem_filter, List.mem_range, reachB_iff]
theorem ring_eq {tos : List (List Nat)} {i : Nat} (hi : i < tos.length) (hr : Reach tos i i) : ((List.range tos.length).filter (reachB tos i)).filter (fun k => reachB tos k i) = ringTo (reachR tos) i tos.length := by
  unfold ringTo
  rw [List.filter_filter]
  apply List.filter_congr
  intro k hk
  rw [List.mem_range] at hk
  rw [Bool.eq_iff_iff, inRing_iff hi hk, Bool.and_eq_true, reachB_iff, reachB_iff]
  constructor
  · rintro ⟨a, b⟩; exact .inr ⟨b, a⟩
  · rintro (rfl | ⟨a, b⟩)
    · exact ⟨hr, hr⟩
    · exact ⟨b, a⟩
theorem head_ring {tos : List (List Nat)} {i : Nat} (hi : i < tos.length) : (ringTo (reachR tos) i tos.length).head? = some i ↔ ∀ k, k < i → ¬ (Reach tos i k ∧ Reach tos k i) := by
  unfold ringTo
  have hn : tos.length = i + (tos.length - i - 1 + 1) := by omega
  have hsplit : List.range tos.length = List.range i ++ (List.range (tos.length - i - 1 + 1)).map (i + ·) := by
    conv => lhs; rw [hn]
    rw [List.range_add]
  rw [hsplit, List.filter_append, List.range_succ_eq_map, List.map_cons, List.filter_cons]
  have hii : inRing (reachR tos) i (i + 0) = true := by unfold inRing; simp
  rw [if_pos hii]
  constructor
  · intro h k hk hm
    have hmem : k ∈ (List.range i).filter (inRing (reachR tos) i) := List.mem_filter.2 ⟨List.mem_range.2 hk, (inRing_iff hi (by omega)).2 (.inr hm)⟩
    cases hf : (List.range i).filter (inRing (reachR tos) i) with
    | nil => rw [hf] at hmem; cases hmem
    | cons a r =>
      rw [hf] at h
      simp at h
      subst h
      have : a ∈ (List.range a).filter (inRing (reachR tos) a) := by rw [hf]; simp
      rw [List.mem_filter, List.mem_range] at this
      omega
  · intro h
    have : (List.range i).filter (inRing (reachR tos) i) = [] := by
      rw [List.filter_eq_nil_iff]
      intro k hk hr
      rw [List.mem_range] at hk
      rcases (inRing_iff hi (by omega)).1 hr with rfl | hm
      · omega
      · exact h k hk hm
    rw [this]; simp
/-- What is in a ring of the first. -/
def InRing (tos : List (List Nat)) (i s : Nat) : Prop := ∃ i', i' < i ∧ Reach tos i' i' ∧ Reach tos i' s ∧ Reach tos s i'
theorem ringIs_iff {tos : List (List Nat)} {i : Nat} (hi : i < tos.length) : ringIs (reachR tos) i = true ↔ Reach tos i i ∧ ¬ InRing tos i i := by
  unfold ringIs
  rw [reachR_len, Bool.and_eq_true, at2_reach hi hi, reachB_iff, beq_iff_eq, head_ring hi]
  constructor
  · rintro ⟨h1, h2⟩
    exact ⟨h1, fun ⟨i', h3, h4, h5, h6⟩ => h2 i' h3 ⟨h6, h5⟩⟩
  · rintro ⟨h1, h2⟩
    exact ⟨h1, fun k hk ⟨h3, h4⟩ => h2 ⟨k, hk, h4.trans h3, h4, h3⟩⟩
theorem InRing.skip {tos : List (List Nat)} {i s : Nat} (h : ¬ Reach tos i i ∨ InRing tos i i) : InRing tos (i + 1) s ↔ InRing tos i s := by
  constructor
  · rintro ⟨i', h1, h2, h3, h4⟩
    by_cases he : i' = i
    · subst he
      rcases h with h | ⟨j, g1, g2, g3, g4⟩
      · exact absurd h2 h
      · exact ⟨j, g1, g2, g3.trans h3, h4.trans g4⟩
    · exact ⟨i', by omega, h2, h3, h4⟩
  · rintro ⟨i', h1, h2⟩
    exact ⟨i', by omega, h2⟩
theorem InRing.step {tos : List (List Nat)} {i s : Nat} (h : Reach tos i i) : InRing tos (i + 1) s ↔ InRing tos i s ∨ (Reach tos i s ∧ Reach tos s i) := by
  constructor
  · rintro ⟨i', h1, h2, h3, h4⟩
    by_cases he : i' = i
    · subst he; exact .inr ⟨h3, h4⟩
    · exact .inl ⟨i', by omega, h2, h3, h4⟩
  · rintro (⟨i', h1, h2⟩ | ⟨h1, h2⟩)
    · exact ⟨i', by omega, h2⟩
    · exact ⟨i, by omega, h, h1, h2⟩

theorem ret17 (p : Pgm) (hp : p.Fits) : Ret CC 17 [p.iv] (.tup [.lst ((ringsA p).map natsIV), .int .i64 (if progR p then 0 else 2)]) := by
  have hr := ret54 p hp
  unfold lookedIV at hr
  unfold ringsA
  cases hb : progR p with
  | true =>
    rw [hb] at hr
    simp only [if_true] at hr ⊢
    have hc := progR_count hb
    have hg := countR_good hc
    have htos := hg.tos
    have htl : (tosR p).length = p.defs.length := hg.steps.2.1
    have hd6 := hg.defs
    have hreach := fun (d : Nat) (h : d < p.defs.length) => ret47 hp htos ((p.defs.length - 1 : Nat) : Int) (countR p) (d := d) (by rw [htl]; exact h)
    have hrings : ringsOf p = ringsTo (reachR (tosR p)) p.defs.length := by unfold ringsOf ringsR; rw [reachR_len, htl]
    rw [hrings]
    generalize ((p.defs.length - 1 : Nat) : Int) = m1 at *
    generalize countR p = m2 at *
    generalize tosR p = tos at *
    obtain ⟨srcs, defs⟩ := p
    simp only at *
    have hdm : (defs.map Dfn.iv).length = defs.length := List.length_map ..
    refine Ret.of (fn := Go.Proofs.Try.f17) (by kernel_rfl) rfl rfl ?_
    refine AA ?_
    refine W.loop (X := Nat × AV) (fun x => [(1, .ptr 0 0), (4, .imm (scopeIV ⟨srcs, defs⟩ m1 m2)), (6, .map 9), (18, .imm (.lst (defs.map Dfn.iv))), (19, .imm (.int .i64 (defs.map Dfn.iv).length)), (20, .imm (.int .i64 x.1)), (5, x.2)])
      (fun x nx G => 11 ≤ nx ∧ G 0 = .box [.imm (.lst (srcs.map sv)), .imm (.lst (defs.map Dfn.iv))] false ∧ (∃ ins, G 9 = setObj ins ∧ ins.Nodup ∧ ∀ s, s ∈ ins ↔ InRing tos x.1 s) ∧ x.1 ≤ defs.length ∧ OwnV 1 30 1 11 nx ((ringsTo (reachR tos) x.1).map natsIV) G x.2)
      (fun x => defs.length - x.1) (0, .nils) .auto ⟨by omega, rfl, ⟨[], rfl, by simp, fun s => ⟨(fun h => by cases h), (fun ⟨_, h, _⟩ => by omega)⟩⟩, Nat.zero_le _, .nil ..⟩ ?_
    rintro ⟨i, v⟩ nx G ⟨hnx, hG0, ⟨ins, hG9, hin, him⟩, hi, ho⟩
    dsimp only at him hi ho ⊢
    rcases Bool.eq_false_or_eq_true (decide ((i : Int) < ((defs.map Dfn.iv).length : Int))) with hcc | hcc
    · have hlt : i < defs.length := by have := of_decide_eq_true hcc; omega
      have hmu : defs.length - (i + 1) < defs.length - i := by omega
      obtain ⟨out, ho1, ho2, ho3, hr47⟩ := hreach i hlt
      have hset1 : lookIs (some ty3) (some ty4) (mapKV G (.map 9)) (natIV i) false (.imm (.bool (ins.contains i))) := by
        simp only [mapKV, hG9, setObj]; exact setLook ins i
      have hset2 := setLook out i
      have hins : ins.contains i = true ↔ InRing tos i i := by rw [← him i]; simp
      have hout : out.contains i = true ↔ Reach tos i i := by rw [← ho3 i]; simp
      have hsucc := ringsTo_succ (reachR tos) i
      have skip : (¬ Reach tos i i ∨ InRing tos i i) → (∀ s, s ∈ ins ↔ InRing tos (i + 1) s) ∧ ringsTo (reachR tos) (i + 1) = ringsTo (reachR tos) i := by
        intro h
        refine ⟨fun s => by rw [him s, InRing.skip h], ?_⟩
        rw [hsucc]
        have : ringIs (reachR tos) i = false := by
          rw [Bool.eq_false_iff]
          intro h'
          have := (ringIs_iff (by omega)).1 h'
          rcases h with h | h
          · exact h this.1
          · exact this.2 h
        rw [this, if_neg (by decide), List.append_nil]
      rcases Bool.eq_false_or_eq_true (ins.contains i) with hA | hA
      · obtain ⟨s1, s2⟩ := skip (.inr (hins.1 hA))
        refine AA ?_
        refine W.skipLop (i + 1, v) hmu .auto ⟨by omega, hG0, ⟨ins, hG9, hin, s1⟩, hlt, ?_⟩
        dsimp only
        rw [s2]
        exact ho.frame (by omega) fun _ _ _ => rfl
      rcases Bool.eq_false_or_eq_true (!out.contains i) with hB | hB
      · have hB' : out.contains i = false := by simpa using hB
        obtain ⟨s1, s2⟩ := skip (.inl fun h => by rw [hout.2 h] at hB'; cases hB')
        refine AA ?_
        refine W.skipLop (i + 1, v) hmu .auto ⟨by omega, hG0, ⟨ins, hG9, hin, s1⟩, hlt, ?_⟩
        dsimp only
        rw [s2]
        exact ho.frame (by omega) fun _ _ _ => rfl
      have hB' : out.contains i = true := by simpa using hB
      have hri := hout.1 hB'
      have hni : ¬ InRing tos i i := fun h => by rw [hins.2 h] at hA; cases hA
      have hri2 : ringIs (reachR tos) i = true := (ringIs_iff (by omega)).2 ⟨hri, hni⟩
      rw [hri2, if_pos rfl, reachR_len, ← ring_eq (by omega) hri] at hsucc
      have holen := nodup_lt ho1 ho2
      have horc : CC.orc 48 [setIV out] = some (.own 3 1 (((List.range tos.length).filter (reachB tos i)).map natIV)) := orcSet ho1 ho2 (fun x _ => by rw [ho3 x, reachB_iff]) (by omega)
      have hLlt : ∀ k ∈ (List.range tos.length).filter (reachB tos i), k < defs.length := fun k h => by
        rw [List.mem_filter, List.mem_range] at h; omega
      have hLr : ∀ k ∈ (List.range tos.length).filter (reachB tos i), Reach tos i k := fun k h => by
        rw [List.mem_filter] at h; exact reachB_iff.1 h.2
      have hLa : ∀ k, Reach tos i k → k ∈ (List.range tos.length).filter (reachB tos i) := fun k h => by
        rw [List.mem_filter, List.mem_range]; exact ⟨ho2 k ((ho3 k).2 h), reachB_iff.2 h⟩
      have hLl : ((List.range tos.length).filter (reachB tos i)).length ≤ 6 := by
        have := List.length_filter_le (reachB tos i) (List.range tos.length)
        rw [List.length_range] at this; omega
      generalize (List.range tos.length).filter (reachB tos i) = L at *
      refine AA ?_
      refine R.op1 (O.callOwnI rfl horc rfl rfl) rfl ?_
      refine R.op0 (O.lenR rfl rfl at_upd (List.length_map ..)) rfl ?_
      refine AA ?_
      have hLm : (L.map natIV).length = L.length := List.length_map ..
      rw [hLm]
      generalize hRR : nx + 1 + 2 + 5 + 9 + 1 + 1 = bR
      have hLm2 : ((L.map natIV).map AV.imm).length = L.length := by simp
      generalize hP : (fun k => reachB tos k i) = P at *
      have hPk : ∀ k, P k = reachB tos k i := fun k => by rw [← hP]
      refine W.loop (X := Nat × AV) (fun x => [(1, .ptr 0 0), (4, .imm (scopeIV ⟨srcs, defs⟩ m1 m2)), (6, .map 9), (7, .imm (natIV i)), (18, .imm (.lst (defs.map Dfn.iv))), (19, .imm (.int .i64 (defs.map Dfn.iv).length)), (20, .imm (.int .i64 i)), (5, v), (37, .row bR L.length), (38, .imm (.int .i64 L.length)), (39, .imm (.int .i64 x.1)), (9, x.2)])
        (fun x nx2 G2 => bR + 1 ≤ nx2 ∧ G2 0 = .box [.imm (.lst (srcs.map sv)), .imm (.lst (defs.map Dfn.iv))] false ∧ G2 bR = .row 3 1 ((L.map natIV).map AV.imm) false ∧ (∃ insj, G2 9 = setObj insj ∧ insj.Nodup ∧ ∀ s, s ∈ insj ↔ s ∈ ins ∨ s ∈ (L.take x.1).filter P) ∧ x.1 ≤ L.length ∧ OwnV 1 30 1 11 nx ((ringsTo (reachR tos) i).map natsIV) G2 v ∧ Own 3 1 (bR + 1) nx2 (((L.take x.1).filter P).map natIV) G2 x.2)
        (fun x => L.length - x.1) (0, .nils) .auto ⟨by omega, (upd_ne _ _ _ _ (by omega)).trans hG0, upd_same _ _ _, ⟨ins, (upd_ne _ _ _ _ (by omega)).trans hG9, hin, fun s => by simp⟩, Nat.zero_le _, ho.frame (Nat.le_refl _) (fun o _ h => upd_ne _ _ _ _ (by omega)), .inl ⟨rfl, rfl⟩⟩ ?_
      rintro ⟨j, w⟩ nx2 G2 ⟨hnx2, hB0, hBR, ⟨insj, hB9, hjn, hjm⟩, hj, hov, how⟩
      dsimp only at hjm hj hov how ⊢
      rcases Bool.eq_false_or_eq_true (decide ((j : Int) < (L.length : Int))) with hcj | hcj
      · have hltj : j < L.length := by have := of_decide_eq_true hcj; omega
        obtain ⟨k, hjk⟩ := at_lt hltj
        have hjx : ((L.map natIV).map AV.imm)[((j : Nat) : Int).toNat]? = some (.imm (natIV k)) := by rw [Int.toNat_natCast]; simp [hjk]
        have hkd := hLlt k (List.mem_of_getElem? hjk)
        obtain ⟨outk, hk1, hk2, hk3, hr47k⟩ := hreach k hkd
        have hset3 := setLook outk i
        have hmu2 : L.length - (j + 1) < L.length - j := by omega
        have htk : (L.take (j + 1)).filter P = (L.take j).filter P ++ (if P k then [k] else []) := by
          rw [List.take_add_one, hjk, List.filter_append]
          congr 1
          simp only [Option.toList, List.filter_cons, List.filter_nil]
        have hPc : P k = outk.contains i := by
          rw [hPk, Bool.eq_iff_iff, reachB_iff, ← hk3 i]; simp
        have hll : ((L.take j).filter P).length ≤ 6 := by
          have h1 := List.length_filter_le P (L.take j)
          rw [List.length_take] at h1; omega
        rcases Bool.eq_false_or_eq_true (outk.contains i) with hC | hC
        · rw [hPc, hC, if_pos rfl] at htk
          refine AA ?_
          refine R.app1 how at_upd (by simp only [List.length_map, most]; omega) fun v' G' ho' hG' => ?_
          have hfr : ∀ o, o < bR + 1 → G' o = G2 o := fun o h => by rw [hG' o h, upd_ne _ _ _ _ (by omega)]
          have h9 : G' 9 = setObj insj := (hfr 9 (by omega)).trans hB9
          refine AA ?_
          refine R.opN1 (O.setPut rfl rfl rfl h9) ?_
          refine AA ?_
          refine W.skipLop (j + 1, v') hmu2 .auto ⟨by omega, (upd_ne _ _ _ _ (by omega)).trans ((hfr 0 (by omega)).trans hB0), (upd_ne _ _ _ _ (by omega)).trans ((hfr bR (by omega)).trans hBR), ⟨addN insj k, upd_same _ _ _, addN_nodup hjn, fun s => ?_⟩, hltj, hov.frame (Nat.le_refl _) (fun o h1 h2 => (upd_ne _ _ _ _ (by omega)).trans (hfr o (by omega))), ?_⟩
          · rw [addN_mem, hjm s, htk, List.mem_append, List.mem_singleton, or_assoc]
          · show Own 3 1 (bR + 1) _ (((L.take (j + 1)).filter P).map natIV) _ v'
            rw [htk, List.map_append]
            exact ho'.frame (by omega) fun o h1 _ => upd_ne _ _ _ _ (by omega)
        · rw [hPc, hC, if_neg (by decide), List.append_nil] at htk
          refine AA ?_
          refine W.skipLop (j + 1, w) hmu2 .auto ⟨by omega, hB0, hBR, ⟨insj, hB9, hjn, fun s => by rw [hjm s, htk]⟩, hltj, hov, ?_⟩
          show Own 3 1 (bR + 1) _ (((L.take (j + 1)).filter P).map natIV) _ w
          rw [htk]
          exact how.up (by omega)
      · have hgej : L.length ≤ j := by have := of_decide_eq_false hcj; omega
        rw [List.take_of_length_le hgej] at hjm how
        refine AA ?_
        have hfit := how.fits1
        have hrl := ringsTo_len (reachR tos) i
        refine R.op1 (O.buildS (n := 1) (ke := ty30) (xs := [w]) rfl rfl rfl (by decide) rfl (by show ([w].all (AV.fits 1)) = true; simp [hfit]) (by decide)) rfl ?_
        refine R.appOwnV (d' := 1) (lo := 11) (hi := nx) (ws := [w]) (ys := [natsIV (L.filter P)]) rfl rfl rfl (hov.frame (Nat.le_refl _) fun o _ h => upd_ne _ _ _ _ (by omega)) rfl (by simp [elems, upd]) (by decide) (by decide) rfl (by show ([w].all (AV.fits 1)) = true; simp [hfit]) (by simp only [List.length_map, List.length_cons, List.length_nil, most]; omega) ⟨by omega, by omega⟩ (fun G' h1 h2 => ⟨?_, trivial⟩) rfl fun v' G' ho' hG1 hG2 => ?_
        · exact how.rdx.frame (fun o ho => by rw [h2 o (by omega) (by omega), upd_ne _ _ _ _ (by omega)]) fun o ho => ⟨by omega, by omega⟩
        · refine AA ?_
          refine W.skipLop (i + 1, v') hmu .auto ⟨by omega, by rw [hG1 0 (by omega), upd_ne _ _ _ _ (by omega)]; exact hB0, ⟨insj, by rw [hG1 9 (by omega), upd_ne _ _ _ _ (by omega)]; exact hB9, hjn, fun s => ?_⟩, hlt, ?_⟩
          · rw [InRing.step hri, hjm s, him s, List.mem_filter, hPk, reachB_iff]
            constructor
            · rintro (h | ⟨h, h'⟩)
              · exact .inl h
              · exact .inr ⟨hLr s h, h'⟩
            · rintro (h | ⟨h, h'⟩)
              · exact .inl h
              · exact .inr ⟨hLa s h, h'⟩
          · show OwnV 1 30 1 11 _ ((ringsTo (reachR tos) (i + 1)).map natsIV) G' v'
            rw [hsucc, List.map_append]
            exact ho'.frame (by omega) fun _ _ _ => rfl
    · have hge : defs.length ≤ i := by have := of_decide_eq_false hcc; omega
      have he : i = defs.length := by omega
      subst he
      have hp := ho.rdx
      refine AA ?_
      rcases ho with ⟨h0, rfl⟩ | ⟨o, vs, _, _, rfl, _⟩
      · exact W.retFin2 rfl rfl ⟨[], by rw [h0]; rfl⟩
      · exact W.retFin2 rfl rfl (Rdx.peek (d := 3) (Rdx.tup (d := 2) (.cons hp (.cons (.imm ..) .nil))) (by decide))
  | false =>
    rw [hb] at hr
    simp only [Bool.false_eq_true, if_false] at hr ⊢
    obtain ⟨srcs, defs⟩ := p
    refine Ret.of (fn := Go.Proofs.Try.f17) (by kernel_rfl) rfl rfl ?_
    refine AA ?_
    exact W.retFin2 rfl rfl ⟨[], rfl⟩
end Go.Abs

/- Numbers within numbers. -/
open Go Go.Abs
namespace Go.Abs
set_option maxRecDepth 100000
set_option maxHeartbeats 4000000
instance fnis37 : FnIs CC 37 := ⟨rfl, fun _ => rfl⟩

theorem contains_take {b : List Nat} {j y x : Nat} (h : b[j]? = some y) : (b.take (j + 1)).contains x = ((b.take j).contains x || ((y : Int) == (x : Int))) := by
  rw [List.take_add_one, h, Bool.eq_iff_iff]
  simp only [List.contains_iff_mem, List.mem_append, Option.mem_toList, Bool.or_eq_true, beq_iff_eq]
  constructor
  · rintro (h | h)
    · exact .inl h
    · cases h; exact .inr rfl
  · rintro (h | h)
    · exact .inl h
    · exact .inr (by rw [show x = y by omega])

theorem ret37 {a b : List Nat} (h : ∀ x ∈ a, x ∈ b) (ha : a.length ≤ 1000) (hb : b.length ≤ 1000) : Ret CC 37 [natsIV a, natsIV b] (.bool true) := by
  have ham : (a.map natIV).length = a.length := List.length_map ..
  have hbm : (b.map natIV).length = b.length := List.length_map ..
  refine Ret.of (fn := Go.Proofs.Try.f37) (by kernel_rfl) rfl rfl ?_
  refine AA ?_
  refine W.loop (X := Nat) (fun i => [(0, .imm (natsIV a)), (1, .imm (natsIV b)), (5, .imm (.int .i64 i))]) (fun i _ _ => i ≤ a.length) (fun i => a.length - i) 0 .auto (Nat.zero_le _) ?_
  rintro i nx G hi
  rcases Bool.eq_false_or_eq_true (decide ((i : Int) < ((a.map natIV).length : Int))) with hcc | hcc
  · have hlt : i < a.length := by have := of_decide_eq_true hcc; omega
    obtain ⟨x, hx⟩ := at_lt hlt
    have hxi := at_map natIV hx
    have hmu : a.length - (i + 1) < a.length - i := by omega
    have hxb := h x (List.mem_of_getElem? hx)
    refine AA ?_
    refine W.loop (X := Nat × Bool) (fun s => [(0, .imm (natsIV a)), (1, .imm (natsIV b)), (5, .imm (.int .i64 i)), (7, .imm (.int .i64 s.1)), (6, .imm (.bool s.2))])
      (fun s _ _ => s.1 ≤ b.length ∧ s.2 = (b.take s.1).contains x) (fun s => b.length - s.1) (0, false) .auto ⟨Nat.zero_le _, by simp⟩ ?_
    rintro ⟨j, f⟩ nx2 G2 ⟨hj, hf⟩
    dsimp only at hj hf ⊢
    rcases Bool.eq_false_or_eq_true (decide ((j : Int) < ((b.map natIV).length : Int))) with hcj | hcj
    · have hltj : j < b.length := by have := of_decide_eq_true hcj; omega
      obtain ⟨y, hy⟩ := at_lt hltj
      have hyi := at_map natIV hy
      have hmu2 : b.length - (j + 1) < b.length - j := by omega
      have hst := contains_take (x := x) hy
      rw [← hf] at hst
      clear hf
      cases f with
      | true =>
        refine AA ?_
        exact W.skipLop (j + 1, true) hmu2 .auto ⟨hltj, by rw [hst]; rfl⟩
      | false =>
        refine AA ?_
        refine W.skipLop (j + 1, ((x : Int) == (y : Int))) hmu2 .auto ⟨hltj, by rw [hst, Bool.false_or, Bool.eq_iff_iff, beq_iff_eq, beq_iff_eq]; exact eq_comm⟩
    · have hge : b.length ≤ j := by have := of_decide_eq_false hcj; omega
      rw [List.take_of_length_le hge] at hf
      have hf' : f = true := by rw [hf]; simpa using hxb
      subst hf'
      have bf : (!true) = false := rfl
      refine AA ?_
      exact W.skipLop (i + 1) hmu .auto hlt
  · refine AA ?_
    exact W.retFin1 rfl ⟨[], rfl⟩
end Go.Abs

/- The rings of a program: each definition that reaches itself is in one, once. -/
open Go Go.Abs
namespace Go.Abs
set_option maxRecDepth 100000

theorem ringTo_mem {tos : List (List Nat)} {i s : Nat} (hi : i < tos.length) (hr : Reach tos i i) : s ∈ ringTo (reachR tos) i tos.length ↔ s < tos.length ∧ Reach tos i s ∧ Reach tos s i := by
  rw [← ring_eq hi hr, List.mem_filter, List.mem_filter, List.mem_range, reachB_iff, reachB_iff, and_assoc]
theorem ringTo_nodup (m : List (List Bool)) (i n : Nat) : (ringTo m i n).Nodup := by
  unfold ringTo
  exact List.nodup_range.sublist List.filter_sublist
theorem count_one {l : List Nat} {s : Nat} (h : l.Nodup) (hs : s ∈ l) : l.count s = 1 := by
  have h1 := List.nodup_iff_count.1 h s
  have h2 := List.count_pos_iff.2 hs
  omega
theorem count_nodup {l : List Nat} {s : Nat} (h : l.Nodup) : (s ∈ l → l.count s = 1) ∧ (s ∉ l → l.count s = 0) :=
  ⟨fun h' => count_one h h', fun h' => List.count_eq_zero.2 h'⟩
theorem count_rings {tos : List (List Nat)} {s : Nat} (hs : s < tos.length) : ∀ i, i ≤ tos.length → (InRing tos i s → (ringsTo (reachR tos) i).flatten.count s = 1) ∧ (¬ InRing tos i s → (ringsTo (reachR tos) i).flatten.count s = 0) := by
  intro i
  induction i with
  | zero =>
    intro _
    exact ⟨fun ⟨_, h, _⟩ => by omega, fun _ => rfl⟩
  | succ i ih =>
    intro hi
    obtain ⟨ih1, ih0⟩ := ih (by omega)
    rw [ringsTo_succ]
    by_cases hr : ringIs (reachR tos) i = true
    · rw [if_pos hr, reachR_len]
      obtain ⟨h1, h2⟩ := (ringIs_iff (by omega)).1 hr
      rw [List.flatten_append, List.count_append, show [ringTo (reachR tos) i tos.length].flatten = ringTo (reachR tos) i tos.length by simp]
      obtain ⟨c1, c0⟩ := count_nodup (s := s) (ringTo_nodup (reachR tos) i tos.length)
      rw [ringTo_mem (by omega) h1] at c1 c0
      rw [InRing.step h1]
      by_cases hA : InRing tos i s
      · have hB : ¬ (s < tos.length ∧ Reach tos i s ∧ Reach tos s i) := by
          rintro ⟨_, h3, h4⟩
          obtain ⟨i', g1, g2, g3, g4⟩ := hA
          exact h2 ⟨i', g1, g2, g3.trans h4, h3.trans g4⟩
        rw [ih1 hA, c0 hB]
        exact ⟨fun _ => rfl, fun h => absurd (.inl hA) h⟩
      · rw [ih0 hA]
        by_cases hB : s < tos.length ∧ Reach tos i s ∧ Reach tos s i
        · rw [c1 hB]
          exact ⟨fun _ => rfl, fun h => absurd (.inr hB.2) h⟩
        · rw [c0 hB]
          refine ⟨fun h => ?_, fun _ => rfl⟩
          rcases h with h | h
          · exact absurd h hA
          · exact absurd ⟨hs, h⟩ hB
    · rw [if_neg hr, List.append_nil]
      have hsk : ¬ Reach tos i i ∨ InRing tos i i := by
        rw [ringIs_iff (by omega)] at hr
        by_cases h : Reach tos i i
        · exact .inr (Classical.byContradiction fun h' => hr ⟨h, h'⟩)
        · exact .inl h
      rw [InRing.skip hsk]
      exact ⟨ih1, ih0⟩
theorem rings_count {tos : List (List Nat)} {s : Nat} (hs : s < tos.length) : (ringsTo (reachR tos) tos.length).flatten.count s = if reachB tos s s then 1 else 0 := by
  obtain ⟨h1, h0⟩ := count_rings hs tos.length (Nat.le_refl _)
  by_cases h : reachB tos s s = true
  · rw [if_pos h]
    exact h1 ⟨s, hs, reachB_iff.1 h, reachB_iff.1 h, reachB_iff.1 h⟩
  · rw [if_neg h]
    refine h0 ?_
    rintro ⟨i', _, _, h3, h4⟩
    exact h (reachB_iff.2 (h4.trans h3))
theorem rings_within {tos : List (List Nat)} {s : Nat} {i : Nat} (hi : i ≤ tos.length) {r : List Nat} (hr : r ∈ ringsTo (reachR tos) i) (hs : s ∈ r) : ∀ k ∈ r, k ∈ (List.range tos.length).filter (reachB tos s) := by
  intro k hk
  unfold ringsTo at hr
  rw [List.mem_map] at hr
  obtain ⟨i', h1, rfl⟩ := hr
  rw [List.mem_filter, List.mem_range] at h1
  obtain ⟨h1, h2⟩ := h1
  have h3 := ((ringIs_iff (by omega)).1 h2).1
  rw [reachR_len, ringTo_mem (by omega) h3] at hs hk
  rw [List.mem_filter, List.mem_range, reachB_iff]
  exact ⟨hk.1, hs.2.2.trans hk.2.1⟩

/-- How often a number has been met, in lists of numbers. -/
def metN (rings : List (List Nat)) (d i j : Nat) : Nat := ((rings.take i).flatten ++ (rings.getD i []).take j).count d
theorem metN_next {rings : List (List Nat)} {d i j k : Nat} {r : List Nat} (hr : rings[i]? = some r) (hk : r[j]? = some k) : metN rings d i (j + 1) = metN rings d i j + (if k = d then 1 else 0) := by
  unfold metN
  rw [List.getD_eq_getElem?_getD, hr, Option.getD_some, List.take_add_one, hk, ← List.append_assoc, List.count_append]
  congr 1
  simp only [Option.toList, List.count_singleton, beq_iff_eq]
theorem metN_end {rings : List (List Nat)} {d i j : Nat} {r : List Nat} (hr : rings[i]? = some r) (hj : r.length ≤ j) : metN rings d i j = metN rings d (i + 1) 0 := by
  unfold metN
  rw [List.getD_eq_getElem?_getD, hr, Option.getD_some, List.take_of_length_le hj, List.take_add_one, hr]
  simp
theorem metN_all {rings : List (List Nat)} {d i : Nat} (hi : rings.length ≤ i) : metN rings d i 0 = rings.flatten.count d := by
  unfold metN
  rw [List.take_of_length_le hi]; simp
theorem metN_le {rings : List (List Nat)} {d i j : Nat} : metN rings d i j ≤ rings.flatten.count d := by
  unfold metN
  refine List.Sublist.count_le _ ?_
  rcases Nat.lt_or_ge i rings.length with h | h
  · conv => rhs; rw [← List.take_append_drop i rings, List.drop_eq_getElem_cons h, List.flatten_append, List.flatten_cons]
    rw [List.getD_eq_getElem?_getD, List.getElem?_eq_getElem h, Option.getD_some]
    exact (List.Sublist.refl _).append ((List.take_sublist _ _).trans (List.sublist_append_left _ _))
  · rw [List.getD_eq_getElem?_getD, List.getElem?_eq_none h, List.take_of_length_le h]
    simp
end Go.Abs

/- TermParts: nodes; the law. -/
open Go Go.Abs
namespace Go.Abs
set_option maxRecDepth 100000
set_option maxHeartbeats 4000000

def nodesAt (defs : List Dfn) (d : Int) : List Exp := match defs[d.toNat]? with
  | some x => allE x.exp
  | none => []
noncomputable def partsR (p : Pgm) (d : Int) : List Exp := if hasR p d then nodesAt p.defs d else []

theorem ret32 (p : Pgm) (hp : p.Fits) (d : Int) : Ret CC 32 [p.iv, .int .i64 d] (.tup [.lst (Exp.ivs (partsR p d)), .int .i64 (errR p d)]) := by
  have hr := ret50 p hp d
  unfold partsR errR
  have hat := hasR_at (p := p) (d := d)
  have hgd := fun h => (countR_good (p := p) (progR_count h)).size
  have hsm := fun h => countR_sm (p := p) (progR_count h)
  have hfit := hp.exp
  generalize hasR p d = b at *
  generalize progR p = pr at *
  obtain ⟨srcs, defs⟩ := p
  refine Ret.of (fn := Go.Proofs.Try.f32) (by kernel_rfl) rfl rfl ?_
  cases b with
  | true =>
    obtain ⟨hpr, i, x, rfl, hx⟩ := hat rfl
    simp only at hx hfit hgd hsm ⊢
    have hxi := at_map Dfn.iv hx
    have hdc := x.cells_len
    have hm := List.mem_of_getElem? hx
    have hsz := hgd hpr x hm
    have hsm := allE_sm (hsm hpr x hm)
    have hr2 := ret58 (hfit x hm) (by omega)
    have hda : nodesAt defs (i : Int) = allE x.exp := by unfold nodesAt; rw [Int.toNat_natCast, hx]
    simp only [if_true]
    rw [hda]
    generalize allE x.exp = l at *
    have hlm := ivs_len l
    obtain ⟨nm, ⟨o', s', m', f', c', k'⟩⟩ := x
    have bf : (!true) = false := rfl
    refine AA ?_
    refine W.loop (X := Nat × AV) (fun x => [(6, .imm (.lst (Exp.ivs l))), (8, .imm (.int .i64 x.1)), (7, x.2)])
      (fun x nx G => x.1 ≤ l.length ∧ Own 59 6 0 nx (Exp.ivs (l.take x.1)) G x.2)
      (fun x => l.length - x.1) (0, .nils) .auto ⟨Nat.zero_le _, .nil ..⟩ ?_
    rintro ⟨j, v⟩ nx G ⟨hj, ho⟩
    dsimp only at hj ho ⊢
    rcases Bool.eq_false_or_eq_true (decide ((j : Int) < ((Exp.ivs l).length : Int))) with hc | hc
    · have hlt : j < l.length := by have := of_decide_eq_true hc; omega
      obtain ⟨e, he⟩ := at_lt hlt
      have hei := ivs_at he
      have hec := e.cells_len
      have hmu : l.length - (j + 1) < l.length - j := by omega
      have hr3 := ret62 (hsm e (List.mem_of_getElem? he))
      have htk := ivs_take he
      have hlen : (Exp.ivs (l.take j)).length ≤ 1000 := by rw [ivs_len, List.length_take]; omega
      obtain ⟨o2, s2, m2, f2, c2, k2⟩ := e
      refine AA ?_
      refine R.app1 ho at_upd (by simp only [most]; omega) fun v' G' ho' hG' => ?_
      rw [← htk] at ho'
      refine AA ?_
      exact W.skipLop (j + 1, v') hmu .auto ⟨hlt, ho'.fr⟩
    · have hge : l.length ≤ j := by have := of_decide_eq_false hc; omega
      rw [List.take_of_length_le hge] at ho
      have hp := ho.rdx
      refine AA ?_
      rcases ho with ⟨h0, rfl⟩ | ⟨o, _, _, rfl, _⟩
      · exact W.retFin2 rfl rfl ⟨[], by rw [h0]; rfl⟩
      · exact W.retFin2 rfl rfl ((Rdx.tup (d := 1) (.cons hp (.cons (.imm ..) .nil))).peek (by decide))
  | false =>
    have bt : (!false) = true := rfl
    refine AA ?_
    exact W.retFin2 rfl rfl ⟨[], rfl⟩
/-- The slice of what was met. -/
def KV (nx : Nat) (l : List Exp) (own : Own1) (G : Nat → Obj) (n : Nat) (v : AV) : Prop :=
  (l = [] ∧ v = .nils ∧ ∀ x, ¬ own x) ∨ ∃ o, nx + 2 ≤ o ∧ o < n ∧ v = .row o l.length ∧ G o = .row 59 6 ((Exp.ivs l).map .imm) false ∧ ∀ x, own x ↔ x = o
theorem KV.rdx {nx n : Nat} {l : List Exp} {own : Own1} {G : Nat → Obj} {v : AV} (h : KV nx l own G n v) : Rdx 1 G (fun o => nx + 2 ≤ o ∧ o < n) v (.lst (Exp.ivs l)) := by
  rcases h with ⟨rfl, rfl, _⟩ | ⟨o, h1, h2, rfl, hG, _⟩
  · exact .nils ..
  · exact .row hG (by simp [ivs_len]) (All2.imms 0 G _ (Exp.ivs l)) ⟨h1, h2⟩

theorem ret31 (p : Pgm) (hp : p.Fits) (d : Int) : Ret CC 31 [p.iv, .int .i64 d] (.tup [.lst (Exp.ivs (partsR p d)), .int .i64 (errR p d)]) := by
  have hr := ret46 p hp d
  unfold partsR errR
  have hat := hasR_at (p := p) (d := d)
  have hgd := fun h => (countR_good (p := p) (progR_count h)).size
  have hsm := fun h => countR_sm (p := p) (progR_count h)
  have hfit := hp.exp
  generalize lookedIV p = lk at *
  generalize hasR p d = b at *
  generalize progR p = pr at *
  obtain ⟨srcs, defs⟩ := p
  refine Ret.of (fn := Go.Proofs.Try.f31) (by kernel_rfl) rfl rfl ?_
  cases b with
  | true =>
    obtain ⟨hpr, i, x, rfl, hx⟩ := hat rfl
    simp only at hx hfit hgd hsm ⊢
    have hxi := at_map Dfn.iv hx
    have hdc := x.cells_len
    have hm := List.mem_of_getElem? hx
    have hf := hfit x hm
    have hsz := hgd hpr x hm
    have hsm := allE_sm (hsm hpr x hm)
    have hr49 := ret49 x.exp
    have hda : nodesAt defs (i : Int) = allE x.exp := by unfold nodesAt; rw [Int.toNat_natCast, hx]
    simp only [if_true]
    rw [hda]
    obtain ⟨nm, ⟨o', s', m', f', c', k'⟩⟩ := x
    simp only at hf hsz hsm ⊢
    have bf : (!true) = false := rfl
    refine AA ?_
    refine W.nodesK _ hf (fun k own G n => 21 ≤ n ∧ ∃ v, G 13 = .box [v] false ∧ KV 21 ((allE (.mk o' s' m' f' c' k')).take k) own G n v) (fun _ _ => False) (fun _ _ _ => False)
      rfl rfl rfl rfl rfl ?_ ?_ ?_ ?_ ?_ ?_ ?_ ?_
    · rintro k own G n G' n' ⟨h0, v, h1, h2⟩ hn hG
      refine ⟨by omega, v, (hG 13 (by omega) (by decide)).trans h1, ?_⟩
      rcases h2 with h2 | ⟨o, g1, g2, g3, g4, g5⟩
      · exact .inl h2
      · exact .inr ⟨o, g1, by omega, g3, (hG o g2 (by omega)).trans g4, g5⟩
    · rintro k own G n ⟨h0, v, h1, h2⟩ o ho
      rcases h2 with ⟨_, _, h2⟩ | ⟨o2, g1, g2, g3, g4, g5⟩
      · exact (h2 o ho).elim
      · rw [(g5 o).1 ho]; exact ⟨g1, g2⟩
    · intro _ _ _ _ h; exact h.elim
    · exact ⟨by omega, .nils, rfl, .inl ⟨rfl, rfl, fun _ h => h⟩⟩
    · rintro q k x own G1 nx1 lp0 lp1 Φr hq hxa hn ⟨h0, v, h1, h2⟩ hlp next _ _
      have hq : q = 21 := hq
      subst hq
      have hr63 := ret63 (hsm x (List.mem_of_getElem? hxa))
      have htk := ivs_take hxa
      have hkl : k < (allE (.mk o' s' m' f' c' k')).length := (List.getElem?_eq_some_iff.1 hxa).1
      have htl : ((allE (.mk o' s' m' f' c' k')).take k).length = k := by rw [List.length_take]; omega
      have htl2 : ((allE (.mk o' s' m' f' c' k')).take (k + 1)).length = k + 1 := by rw [List.length_take]; omega
      generalize (allE (.mk o' s' m' f' c' k')).take (k + 1) = l2 at *
      generalize (allE (.mk o' s' m' f' c' k')).take k = l1 at *
      obtain ⟨op', name', m2, fold', calcs', kids'⟩ := x
      refine W.regionN ?_
      refine AQ ?_
      refine R.doneAstQ at_upd ?_
      refine W.gen' (fun G2 => G2 (nx1 + 0) = .box [.imm (.int .i64 op'), .imm (sv name'), .imm (.int .i64 m2), .imm (.int .i64 fold'), .imm (.lst (Trm.ivs calcs')), .imm (.lst (Exp.ivs kids'))] false ∧ G2 21 = lp1 ∧ ∀ o, o < nx1 → o ≠ 21 → G2 o = G1 o) ⟨at_upd, at_upd, fun o _ _ => at_upd⟩ ?_
      rintro G2 ⟨hbx, hlp2, hfr2⟩
      have h13 := (hfr2 13 (by omega) (by omega)).trans h1
      rcases h2 with ⟨h3, rfl, h4⟩ | ⟨o, g1, g2, rfl, g4, g5⟩
      · subst h3
        refine AN ?_
        refine D.op0 (O.lenN rfl rfl) rfl rfl ?_
        refine AD ?_
        refine D.op1 (O.appNil rfl rfl rfl rfl (elems_row at_upd rfl) (by decide) (by decide) rfl rfl (by decide)) rfl rfl ?_
        refine D.op0 (O.addrR rfl rfl rfl at_upd rfl (by decide) rfl) rfl rfl ?_
        refine D.opN1 (O.storeRS (by decide) rfl rfl rfl at_upd rfl rfl rfl rfl) rfl ?_
        refine AD ?_
        refine D.skip4 13 (nx1 + 0) (nx1 + 2 + 5) (nx1 + 2 + 4) (by omega) [⟨0, [1], [], []⟩, ⟨1, [2], [], []⟩, ⟨2, [], [], []⟩, ⟨3, [], [], []⟩, ⟨4, [], [4], []⟩, ⟨5, [4], [3], []⟩, ⟨6, [3], [], []⟩, ⟨7, [3], [3], []⟩, ⟨8, [1], [1], []⟩] rfl rfl rfl (by kernel_rfl) ?_
        refine AN ?_
        have hl2 : l2.length = 1 := by rw [htl2, ← htl]; rfl
        refine next (fun x => x = nx1 + 2 + 5) (by omega) (fun o g1 g2 => by omega) (fun o g1 g2 g3 => Eq.trans at_upd (hfr2 o g2 (by omega))) ⟨by omega, .row (nx1 + 2 + 5) l2.length, ?_, .inr ⟨nx1 + 2 + 5, by omega, by omega, rfl, ?_, fun x => Iff.rfl⟩⟩ at_upd
        · rw [hl2]; exact at_upd
        · rw [htk]; exact at_upd
      · have go := (hfr2 o (by omega) (by omega)).trans g4
        refine AN ?_
        refine D.op0 (O.lenR rfl rfl go (by simp [ivs_len])) rfl rfl ?_
        refine AD ?_
        refine D.op1 (O.appRow rfl rfl rfl at_upd (by simp [ivs_len]) rfl (elems_row at_upd rfl) (by decide) (by decide) rfl rfl (by simp only [List.length_cons, List.length_nil, most]; omega)) rfl rfl ?_
        refine D.op0 (O.addrR rfl rfl rfl at_upd rfl (by simp [ivs_len]; omega) rfl) rfl rfl ?_
        refine D.opN1 (O.storeRS (by decide) rfl rfl rfl at_upd rfl (mid_at (by simp [ivs_len])) rfl rfl) rfl ?_
        refine AD ?_
        refine D.skip4 13 (nx1 + 0) o (nx1 + 2 + 4) (by omega) [⟨0, [1], [], []⟩, ⟨1, [2], [], []⟩, ⟨2, [], [], []⟩, ⟨3, [3], [], []⟩, ⟨4, [], [4], []⟩, ⟨5, [3, 4], [3], []⟩, ⟨6, [3], [], []⟩, ⟨7, [3], [3], []⟩, ⟨8, [1], [1], []⟩] rfl rfl rfl (by kernel_rfl) ?_
        refine AN ?_
        refine next own (by omega) (fun o g1 g2 => g2) (fun o2 g6 g7 g8 => ?_) ⟨by omega, .row o l2.length, ?_, .inr ⟨o, by omega, by omega, rfl, ?_, g5⟩⟩ at_upd
        · have hne : o2 ≠ o := fun h => g8 ((g5 o2).2 h)
          exact Eq.trans at_upd (hfr2 o2 g7 (by omega))
        · have hl2 : ∀ c : AV, (((Exp.ivs l1).map AV.imm) ++ [c]).length = l2.length := by intro c; simp [ivs_len]; omega
          refine (upd_same _ _ _).trans ?_
          rw [hl2]; rfl
        · rw [htk, List.map_append]
          refine (upd_ne _ _ _ _ (by omega)).trans ((upd_same _ _ _).trans ?_)
          rw [mid_set (by simp [ivs_len])]
          rfl
    · rintro own G1 nx1 ⟨h0, v, h1, h2⟩ hn
      rw [List.take_length] at h2
      have hp := h2.rdx
      refine AA ?_
      rcases h2 with ⟨h0, rfl, _⟩ | ⟨o, _, _, rfl, _⟩
      · exact W.retFin2 rfl rfl ⟨[], by rw [h0]; rfl⟩
      · exact W.retFin2 rfl rfl ((Rdx.tup (d := 1) (.cons hp (.cons (.imm ..) .nil))).peek (by decide))
    · intro _ _ h; exact h.elim
    · intro _ _ _ h; exact h.elim
  | false =>
    have bt : (!false) = true := rfl
    refine AA ?_
    exact W.retFin2 rfl rfl ⟨[], rfl⟩
theorem ret8 (p : Pgm) (hp : p.Fits) (d : Int) : Ret CC 8 [p.iv, .int .i64 d] (.bool true) := by
  have h31 := ret31 p hp d
  have h32 := ret32 p hp d
  have h33 := ret33 p hp d
  have h34 := ret34 p hp d
  have h14 := ret14
  have h35 : Ret CC 35 [.lst (Exp.ivs (partsR p d)), .lst (Exp.ivs (partsR p d))] (.bool true) := by
    refine ret35 ?_ ?_
    · unfold partsR
      split
      · rename_i h
        obtain ⟨hpr, i, x, rfl, hx⟩ := hasR_at h
        unfold nodesAt
        rw [Int.toNat_natCast, hx]
        have := (countR_good (progR_count hpr)).size x (List.mem_of_getElem? hx)
        dsimp only; omega
      · simp
    · unfold partsR
      split
      · rename_i h
        obtain ⟨hpr, i, x, rfl, hx⟩ := hasR_at h
        unfold nodesAt
        rw [Int.toNat_natCast, hx]
        exact allE_sm (countR_sm (progR_count hpr) x (List.mem_of_getElem? hx))
      · intro e he; cases he
  generalize partsR p d = l at *
  generalize depthR p d = n at *
  generalize errR p d = e at *
  have b1 : (n == n) = true := by simp
  have b2 : (e == e) = true := by simp
  obtain ⟨srcs, defs⟩ := p
  refine Ret.of (fn := Go.Proofs.Try.f8) (by kernel_rfl) rfl rfl ?_
  refine AA ?_
  exact W.retFin1 rfl ⟨[], rfl⟩
end Go.Abs

/- Rings. -/
open Go Go.Abs
namespace Go.Abs
set_option maxRecDepth 100000
set_option maxHeartbeats 4000000

theorem O.conv {id : Nat} {l : Env} {G : Nat → Obj} {nx : Nat} {df : List (AV × List AV)} {pk : Pk} {t u : TypeId} {x : Operand} {k k' : IntKind} {n : Int} {i j : TyI} [hi : TyIs CC t i] [hj : TyIs CC u j] (hk : j.d = .int k) (hx : lookO l x = some (.imm (.int k' n))) (hw : k.wrap n = n) :
    OpV CC id l G nx df pk (.convert t u x) (.imm (.int k n)) [] :=
  O.of fun t L ht => by simp only [opA, ht.ev hx, aConvert, hi.is, hj.is, hk, hw]
theorem remN (a n : Nat) (hn : 0 < n) : intOp .rem .i64 (a : Int) (n : Int) = some (.int .i64 ((a % n : Nat) : Int)) := by
  have h0 : ¬ ((n : Int) = 0) := by omega
  have : ((a : Int).tmod n) = ((a % n : Nat) : Int) := by rw [Int.tmod_eq_emod_of_nonneg (by omega)]; rfl
  simp only [intOp, if_neg h0, this]

theorem ret9 (p : Pgm) (hp : p.Fits) (a : Int) (hw : (Lit.int .u8 a).wf = true) : Ret CC 9 [p.iv, .int .u8 a] (.bool true) := by
  have h36 := ret36 p hp
  have h14 := ret14
  have ha : 0 ≤ a ∧ a ≤ 255 := by
    have h : (decide (IntKind.u8.min ≤ a) && decide (a ≤ IntKind.u8.max)) = true := hw
    rw [Bool.and_eq_true, decide_eq_true_eq, decide_eq_true_eq] at h
    exact h
  cases hpr : progR p with
  | false =>
    rw [hpr] at h36
    obtain ⟨srcs, defs⟩ := p
    have bt : (!false) = true := rfl
    refine Ret.of (fn := Go.Proofs.Try.f9) (by kernel_rfl) rfl rfl ?_
    refine AA ?_
    exact W.retFin1 rfl ⟨[], rfl⟩
  | true =>
    rw [hpr] at h36
    have bf : (!true) = false := rfl
    rcases Bool.eq_false_or_eq_true (((p.defs.map Dfn.iv).length : Int) == 0) with hz | hz
    · obtain ⟨srcs, defs⟩ := p
      simp only at hz
      refine Ret.of (fn := Go.Proofs.Try.f9) (by kernel_rfl) rfl rfl ?_
      refine AA ?_
      exact W.retFin1 rfl ⟨[], rfl⟩
    · have hn : 0 < p.defs.length := by
        rcases Nat.eq_zero_or_pos p.defs.length with h | h
        · rw [List.length_map, h] at hz; cases hz
        · exact h
      obtain ⟨a, rfl⟩ := Int.eq_ofNat_of_zero_le ha.1
      have hc := progR_count hpr
      have hg := countR_good hc
      have htl : (tosR p).length = p.defs.length := hg.steps.2.1
      have hdm : (p.defs.map Dfn.iv).length = p.defs.length := List.length_map ..
      have hrem := remN a p.defs.length hn
      rw [← hdm] at hrem
      have hd : a % (p.defs.map Dfn.iv).length < p.defs.length := by rw [hdm]; exact Nat.mod_lt _ hn
      generalize a % (p.defs.map Dfn.iv).length = d at *
      obtain ⟨x, hx⟩ := at_lt hd
      have hh : hasR p (d : Int) = true := by
        unfold hasR
        rw [hpr]
        simp only [Bool.true_and, Bool.and_eq_true, decide_eq_true_eq]
        omega
      have h15 := ret15 p hp (d : Int)
      have h17 := ret17 p hp
      have h31 := ret31 p hp (d : Int)
      rw [hpr] at h17
      unfold srcsA reachA errR at h15
      unfold partsR errR nodesAt at h31
      unfold ringsA at h17
      rw [hpr] at h17
      rw [hh] at h15 h31
      simp only [if_true, Int.toNat_natCast, hx] at h15 h17 h31
      have hrings : ringsOf p = ringsTo (reachR (tosR p)) p.defs.length := by unfold ringsOf ringsR; rw [reachR_len, htl]
      have hcount : (ringsOf p).flatten.count d = if reachB (tosR p) d d then 1 else 0 := by rw [hrings, ← htl]; exact rings_count (by omega)
      have hin : ∀ r ∈ ringsOf p, d ∈ r → ∀ k ∈ r, k ∈ reachN p d := fun r hr hdr => by
        unfold reachN; rw [← htl]; exact rings_within (i := (tosR p).length) (Nat.le_refl _) (by rw [htl, ← hrings]; exact hr) hdr
      have hdr : (reachN p d).contains d = reachB (tosR p) d d := by
        rw [Bool.eq_iff_iff, List.contains_iff_mem]
        unfold reachN
        rw [List.mem_filter, List.mem_range]
        exact ⟨fun h => h.2, fun h => ⟨hd, h⟩⟩
      have hfore : reachB (tosR p) d d = true → ∀ y ∈ allE x.exp, y.fore = false := by
        intro h y hy
        rw [if_pos h] at hcount
        have hm : d ∈ (ringsOf p).flatten := List.count_pos_iff.1 (by omega)
        obtain ⟨r, hr, hdr⟩ := List.mem_flatten.1 hm
        have h2 := hpr
        unfold progR at h2
        split at h2
        · cases h2
        · rw [List.all_eq_true] at h2
          have h3 := List.all_eq_true.1 (h2 r hr) d hdr
          unfold foreAt at h3
          rw [hx] at h3
          simp only [Bool.not_eq_true'] at h3
          unfold aheadE at h3
          rw [List.any_eq_false] at h3
          simpa using h3 y hy
      have hr6 := ringsOf_len hg
      have hrl := ringsOf_le hg
      have hre : (reachN p d).length ≤ 6 := by
        unfold reachN
        have h2 := List.length_filter_le (reachB (tosR p) d) (List.range p.defs.length)
        rw [List.length_range] at h2
        have := hg.defs
        omega
      have hsz := hg.size x (List.mem_of_getElem? hx)
      generalize reachB (tosR p) d d = inR at *
      generalize reachN p d = reached at *
      generalize ringsOf p = rings at *
      generalize srcsR p d = sr at *
      generalize allE x.exp = nodes at *
      obtain ⟨srcs, defs⟩ := p
      simp only at hz hd hx hrem
      clear hh hpr hc hg htl hrings hp
      have hrm : (reached.map natIV).length = reached.length := List.length_map ..
      have hnm : (Exp.ivs nodes).length = nodes.length := ivs_len nodes
      have hgm : (rings.map natsIV).length = rings.length := List.length_map ..
      have bz : ((0 : Int) != 0) = false := rfl
      have bz' : ((0 : Int) == 0) = true := rfl
      refine Ret.of (fn := Go.Proofs.Try.f9) (by kernel_rfl) rfl rfl ?_
      refine AA ?_
      refine R.op0 (O.conv rfl rfl (wrap64 (by omega))) rfl ?_
      refine AA ?_
      refine R.op0 (O.int rfl rfl hrem) rfl ?_
      refine AA ?_
      refine W.loop (X := Nat) (fun i => [(2, .ptr 0 0), (5, .imm (natIV d)), (7, .imm (natsIV reached)), (9, .imm (.lst (rings.map natsIV))), (12, .imm (.int .i64 i)), (11, .imm (.bool ((reached.take i).contains d)))])
        (fun i nx G => 1 ≤ nx ∧ G 0 = .box [.imm (.lst (srcs.map sv)), .imm (.lst (defs.map Dfn.iv))] false ∧ i ≤ reached.length) (fun i => reached.length - i) 0 .auto ⟨by omega, rfl, Nat.zero_le _⟩ ?_
      rintro i nx G ⟨hnx, hG0, hi⟩
      rcases Bool.eq_false_or_eq_true (decide ((i : Int) < ((reached.map natIV).length : Int))) with hcc | hcc
      · have hlt : i < reached.length := by have := of_decide_eq_true hcc; omega
        obtain ⟨y, hy⟩ := at_lt hlt
        have hyi := at_map natIV hy
        have hmu : reached.length - (i + 1) < reached.length - i := by omega
        have hst : (reached.take (i + 1)).contains d = ((reached.take i).contains d || ((y : Int) == (d : Int))) := by
          rw [contains_take hy]
        rcases Bool.eq_false_or_eq_true ((reached.take i).contains d) with hf | hf
        · rw [hf] at hst ⊢
          refine AA ?_
          exact W.skipLop (i + 1) hmu (by rw [hst]; exact .auto) ⟨by omega, hG0, hlt⟩
        · rw [hf] at hst ⊢
          rw [Bool.false_or] at hst
          refine AA ?_
          exact W.skipLop (i + 1) hmu (by rw [hst]; exact .auto) ⟨by omega, hG0, hlt⟩
      have hge : reached.length ≤ i := by have := of_decide_eq_false hcc; omega
      rw [List.take_of_length_le hge, hdr]
      refine AA ?_
      refine W.loop (X := Nat) (fun i => [(2, .ptr 0 0), (5, .imm (natIV d)), (7, .imm (natsIV reached)), (9, .imm (.lst (rings.map natsIV))), (11, .imm (.bool inR)), (13, .imm (.int .i64 (metN rings d i 0))), (14, .imm (.int .i64 i))])
        (fun i nx G => 1 ≤ nx ∧ G 0 = .box [.imm (.lst (srcs.map sv)), .imm (.lst (defs.map Dfn.iv))] false ∧ i ≤ rings.length) (fun i => rings.length - i) 0 .auto ⟨by omega, hG0, Nat.zero_le _⟩ ?_
      clear hcc hi hge hnx hG0 i nx G
      rintro i nx G ⟨hnx, hG0, hi⟩
      rcases Bool.eq_false_or_eq_true (decide ((i : Int) < ((rings.map natsIV).length : Int))) with hcc | hcc
      · have hlt : i < rings.length := by have := of_decide_eq_true hcc; omega
        obtain ⟨r, hri⟩ := at_lt hlt
        have hrix := at_map natsIV hri
        have hrlm : (r.map natIV).length = r.length := List.length_map ..
        have hrm := List.mem_of_getElem? hri
        have hr6' := hrl r hrm
        have hmu : rings.length - (i + 1) < rings.length - i := by omega
        refine AA ?_
        refine W.loop (X := Nat) (fun j => [(2, .ptr 0 0), (5, .imm (natIV d)), (7, .imm (natsIV reached)), (9, .imm (.lst (rings.map natsIV))), (11, .imm (.bool inR)), (13, .imm (.int .i64 (metN rings d i j))), (14, .imm (.int .i64 i)), (15, .imm (.int .i64 j))])
          (fun j nx G => 1 ≤ nx ∧ G 0 = .box [.imm (.lst (srcs.map sv)), .imm (.lst (defs.map Dfn.iv))] false ∧ j ≤ r.length) (fun j => r.length - j) 0 .auto ⟨by omega, hG0, Nat.zero_le _⟩ ?_
        clear hnx hG0 nx G
        rintro j nx G ⟨hnx, hG0, hj⟩
        rcases Bool.eq_false_or_eq_true (decide ((j : Int) < ((r.map natIV).length : Int))) with hcj | hcj
        · have hltj : j < r.length := by have := of_decide_eq_true hcj; omega
          obtain ⟨k, hkj⟩ := at_lt hltj
          have hkjx := at_map natIV hkj
          have hmu2 : r.length - (j + 1) < r.length - j := by omega
          have hnext := metN_next (d := d) hri hkj
          have hle : metN rings d i j ≤ rings.flatten.count d := metN_le
          rw [hcount] at hle
          have hle1 : metN rings d i j ≤ 1 := by
            refine Nat.le_trans hle ?_
            split <;> omega
          rcases Bool.eq_false_or_eq_true ((k : Int) == (d : Int)) with hk | hk
          · have hkd : k = d := by have := beq_iff_eq.1 hk; omega
            rw [if_pos hkd] at hnext
            have hr37 := ret37 (hin r hrm (by rw [← hkd]; exact List.mem_of_getElem? hkj)) (by omega) (by omega)
            refine AA ?_
            exact W.skipLop (j + 1) hmu2 (by rw [hnext, Int.natCast_add]; exact .auto) ⟨by omega, hG0, hltj⟩
          · have hkd : ¬ k = d := fun h => by rw [h] at hk; simp at hk
            rw [if_neg hkd, Nat.add_zero] at hnext
            refine AA ?_
            exact W.skipLop (j + 1) hmu2 (by rw [hnext]; exact .auto) ⟨by omega, hG0, hltj⟩
        · have hgej : r.length ≤ j := by have := of_decide_eq_false hcj; omega
          have hend := metN_end (d := d) hri hgej
          refine AA ?_
          exact W.skipLop (i + 1) hmu (by rw [← hend]; exact .auto) ⟨by omega, hG0, hlt⟩
      have hge : rings.length ≤ i := by have := of_decide_eq_false hcc; omega
      rw [metN_all hge, hcount]
      obtain ⟨n, hn1, hn2, hn3⟩ : ∃ n : Int, (((if inR = true then 1 else 0 : Nat) : Nat) : Int) = n ∧ (!(inR == (n == 1))) = false ∧ decide (n > 1) = false := by
        cases inR
        · exact ⟨0, rfl, rfl, rfl⟩
        · exact ⟨1, rfl, rfl, rfl⟩
      rw [hn1]
      refine AA ?_
      refine W.loop (X := Nat) (fun k => [(8, .imm (.int .i64 0)), (11, .imm (.bool inR)), (16, .imm (.lst (Exp.ivs nodes))), (17, .imm (.int .i64 k))])
        (fun k nx G => k ≤ nodes.length) (fun k => nodes.length - k) 0 .auto (Nat.zero_le _) ?_
      rintro k nx G hk
      rcases Bool.eq_false_or_eq_true (decide ((k : Int) < ((Exp.ivs nodes).length : Int))) with hck | hck
      · have hlt : k < nodes.length := by have := of_decide_eq_true hck; omega
        obtain ⟨y, hy⟩ := at_lt hlt
        have hyi := ivs_at hy
        have hmu : nodes.length - (k + 1) < nodes.length - k := by omega
        have hyf := fun h => hfore h y (List.mem_of_getElem? hy)
        obtain ⟨op, s', n', f', c', k'⟩ := y
        cases inR with
        | false =>
          refine AA ?_
          exact W.retFin1 rfl ⟨[], rfl⟩
        | true =>
          have hyf := hyf rfl
          unfold Exp.fore at hyf
          rw [Bool.or_eq_false_iff] at hyf
          obtain ⟨hA, hB⟩ := hyf
          simp only [Exp.op, Exp.n] at hA hB
          rcases Bool.eq_false_or_eq_true (op == 7) with h7 | h7
          · rw [h7, Bool.true_and] at hB
            have hB' : decide (n' < (0 : Int)) = false := hB
            refine AA ?_
            exact W.skipLop (k + 1) hmu .auto hlt
          · refine AA ?_
            exact W.skipLop (k + 1) hmu .auto hlt
      · refine AA ?_
        exact W.retFin1 rfl ⟨[], rfl⟩
end Go.Abs
