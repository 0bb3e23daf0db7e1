/- TermParts: nodes; the law. -/
import Derived.Test.YtpkmljhdaijanaaPart13
open Go Go.Abs
namespace Go.Abs
set_option maxRecDepth 100000
set_option maxHeartbeats 4000000

def nodesAt (defs : List Dfn) (d : Int) : List Exp := match defs[d.toNat]? with
  | some x => allE x.exp
  | none => []
noncomputable def partsR (p : Pgm) (d : Int) : List Exp := if hasR p d then nodesAt p.defs d else []

theorem ret32 (p : Pgm) (hp : p.Fits) (d : Int) : Ret CC 32 [p.iv, .int .i64 d] (.tup [.lst (Exp.ivs (partsR p d)), .int .i64 (errR p d)]) := by
  have hr := ret50 p hp d
  unfold partsR errR
  have hat := hasR_at (p := p) (d := d)
  have hgd := fun h => (countR_good (p := p) (progR_count h)).size
  have hsm := fun h => countR_sm (p := p) (progR_count h)
  have hfit := hp.exp
  generalize hasR p d = b at *
  generalize progR p = pr at *
  obtain ⟨srcs, defs⟩ := p
  refine Ret.of (fn := Go.Proofs.Try.f32) (by kernel_rfl) rfl rfl ?_
  cases b with
  | true =>
    obtain ⟨hpr, i, x, rfl, hx⟩ := hat rfl
    simp only at hx hfit hgd hsm ⊢
    have hxi := at_map Dfn.iv hx
    have hdc := x.cells_len
    have hm := List.mem_of_getElem? hx
    have hsz := hgd hpr x hm
    have hsm := allE_sm (hsm hpr x hm)
    have hr2 := ret58 (hfit x hm) (by omega)
    have hda : nodesAt defs (i : Int) = allE x.exp := by unfold nodesAt; rw [Int.toNat_natCast, hx]
    simp only [if_true]
    rw [hda]
    generalize allE x.exp = l at *
    have hlm := ivs_len l
    obtain ⟨nm, ⟨o', s', m', f', c', k'⟩⟩ := x
    have bf : (!true) = false := rfl
    refine AA ?_
    refine W.loop (X := Nat × AV) (fun x => [(6, .imm (.lst (Exp.ivs l))), (8, .imm (.int .i64 x.1)), (7, x.2)])
      (fun x nx G => x.1 ≤ l.length ∧ Own 59 6 0 nx (Exp.ivs (l.take x.1)) G x.2)
      (fun x => l.length - x.1) (0, .nils) .auto ⟨Nat.zero_le _, .nil ..⟩ ?_
    rintro ⟨j, v⟩ nx G ⟨hj, ho⟩
    dsimp only at hj ho ⊢
    rcases Bool.eq_false_or_eq_true (decide ((j : Int) < ((Exp.ivs l).length : Int))) with hc | hc
    · have hlt : j < l.length := by have := of_decide_eq_true hc; omega
      obtain ⟨e, he⟩ := at_lt hlt
      have hei := ivs_at he
      have hec := e.cells_len
      have hmu : l.length - (j + 1) < l.length - j := by omega
      have hr3 := ret62 (hsm e (List.mem_of_getElem? he))
      have htk := ivs_take he
      have hlen : (Exp.ivs (l.take j)).length ≤ 1000 := by rw [ivs_len, List.length_take]; omega
      obtain ⟨o2, s2, m2, f2, c2, k2⟩ := e
      refine AA ?_
      refine R.app1 ho at_upd (by simp only [most]; omega) fun v' G' ho' hG' => ?_
      rw [← htk] at ho'
      refine AA ?_
      exact W.skipLop (j + 1, v') hmu .auto ⟨hlt, ho'.fr⟩
    · have hge : l.length ≤ j := by have := of_decide_eq_false hc; omega
      rw [List.take_of_length_le hge] at ho
      have hp := ho.rdx
      refine AA ?_
      rcases ho with ⟨h0, rfl⟩ | ⟨o, _, _, rfl, _⟩
      · exact W.retFin2 rfl rfl ⟨[], by rw [h0]; rfl⟩
      · exact W.retFin2 rfl rfl ((Rdx.tup (d := 1) (.cons hp (.cons (.imm ..) .nil))).peek (by decide))
  | false =>
    have bt : (!false) = true := rfl
    refine AA ?_
    exact W.retFin2 rfl rfl ⟨[], rfl⟩
/-- The slice of what was met. -/
def KV (nx : Nat) (l : List Exp) (own : Own1) (G : Nat → Obj) (n : Nat) (v : AV) : Prop :=
  (l = [] ∧ v = .nils ∧ ∀ x, ¬ own x) ∨ ∃ o, nx + 2 ≤ o ∧ o < n ∧ v = .row o l.length ∧ G o = .row 59 6 ((Exp.ivs l).map .imm) false ∧ ∀ x, own x ↔ x = o
theorem KV.rdx {nx n : Nat} {l : List Exp} {own : Own1} {G : Nat → Obj} {v : AV} (h : KV nx l own G n v) : Rdx 1 G (fun o => nx + 2 ≤ o ∧ o < n) v (.lst (Exp.ivs l)) := by
  rcases h with ⟨rfl, rfl, _⟩ | ⟨o, h1, h2, rfl, hG, _⟩
  · exact .nils ..
  · exact .row hG (by simp [ivs_len]) (All2.imms 0 G _ (Exp.ivs l)) ⟨h1, h2⟩

theorem ret31 (p : Pgm) (hp : p.Fits) (d : Int) : Ret CC 31 [p.iv, .int .i64 d] (.tup [.lst (Exp.ivs (partsR p d)), .int .i64 (errR p d)]) := by
  have hr := ret46 p hp d
  unfold partsR errR
  have hat := hasR_at (p := p) (d := d)
  have hgd := fun h => (countR_good (p := p) (progR_count h)).size
  have hsm := fun h => countR_sm (p := p) (progR_count h)
  have hfit := hp.exp
  generalize lookedIV p = lk at *
  generalize hasR p d = b at *
  generalize progR p = pr at *
  obtain ⟨srcs, defs⟩ := p
  refine Ret.of (fn := Go.Proofs.Try.f31) (by kernel_rfl) rfl rfl ?_
  cases b with
  | true =>
    obtain ⟨hpr, i, x, rfl, hx⟩ := hat rfl
    simp only at hx hfit hgd hsm ⊢
    have hxi := at_map Dfn.iv hx
    have hdc := x.cells_len
    have hm := List.mem_of_getElem? hx
    have hf := hfit x hm
    have hsz := hgd hpr x hm
    have hsm := allE_sm (hsm hpr x hm)
    have hr49 := ret49 x.exp
    have hda : nodesAt defs (i : Int) = allE x.exp := by unfold nodesAt; rw [Int.toNat_natCast, hx]
    simp only [if_true]
    rw [hda]
    obtain ⟨nm, ⟨o', s', m', f', c', k'⟩⟩ := x
    simp only at hf hsz hsm ⊢
    have bf : (!true) = false := rfl
    refine AA ?_
    refine W.nodesK _ hf (fun k own G n => 21 ≤ n ∧ ∃ v, G 13 = .box [v] false ∧ KV 21 ((allE (.mk o' s' m' f' c' k')).take k) own G n v) (fun _ _ => False) (fun _ _ _ => False)
      rfl rfl rfl rfl rfl ?_ ?_ ?_ ?_ ?_ ?_ ?_ ?_
    · rintro k own G n G' n' ⟨h0, v, h1, h2⟩ hn hG
      refine ⟨by omega, v, (hG 13 (by omega) (by decide)).trans h1, ?_⟩
      rcases h2 with h2 | ⟨o, g1, g2, g3, g4, g5⟩
      · exact .inl h2
      · exact .inr ⟨o, g1, by omega, g3, (hG o g2 (by omega)).trans g4, g5⟩
    · rintro k own G n ⟨h0, v, h1, h2⟩ o ho
      rcases h2 with ⟨_, _, h2⟩ | ⟨o2, g1, g2, g3, g4, g5⟩
      · exact (h2 o ho).elim
      · rw [(g5 o).1 ho]; exact ⟨g1, g2⟩
    · intro _ _ _ _ h; exact h.elim
    · exact ⟨by omega, .nils, rfl, .inl ⟨rfl, rfl, fun _ h => h⟩⟩
    · rintro q k x own G1 nx1 lp0 lp1 Φr hq hxa hn ⟨h0, v, h1, h2⟩ hlp next _ _
      have hq : q = 21 := hq
      subst hq
      have hr63 := ret63 (hsm x (List.mem_of_getElem? hxa))
      have htk := ivs_take hxa
      have hkl : k < (allE (.mk o' s' m' f' c' k')).length := (List.getElem?_eq_some_iff.1 hxa).1
      have htl : ((allE (.mk o' s' m' f' c' k')).take k).length = k := by rw [List.length_take]; omega
      have htl2 : ((allE (.mk o' s' m' f' c' k')).take (k + 1)).length = k + 1 := by rw [List.length_take]; omega
      generalize (allE (.mk o' s' m' f' c' k')).take (k + 1) = l2 at *
      generalize (allE (.mk o' s' m' f' c' k')).take k = l1 at *
      obtain ⟨op', name', m2, fold', calcs', kids'⟩ := x
      refine W.regionN ?_
      refine AQ ?_
      refine R.doneAstQ at_upd ?_
      refine W.gen' (fun G2 => G2 (nx1 + 0) = .box [.imm (.int .i64 op'), .imm (sv name'), .imm (.int .i64 m2), .imm (.int .i64 fold'), .imm (.lst (Trm.ivs calcs')), .imm (.lst (Exp.ivs kids'))] false ∧ G2 21 = lp1 ∧ ∀ o, o < nx1 → o ≠ 21 → G2 o = G1 o) ⟨at_upd, at_upd, fun o _ _ => at_upd⟩ ?_
      rintro G2 ⟨hbx, hlp2, hfr2⟩
      have h13 := (hfr2 13 (by omega) (by omega)).trans h1
      rcases h2 with ⟨h3, rfl, h4⟩ | ⟨o, g1, g2, rfl, g4, g5⟩
      · subst h3
        refine AN ?_
        refine D.op0 (O.lenN rfl rfl) rfl rfl ?_
        refine AD ?_
        refine D.op1 (O.appNil rfl rfl rfl rfl (elems_row at_upd rfl) (by decide) (by decide) rfl rfl (by decide)) rfl rfl ?_
        refine D.op0 (O.addrR rfl rfl rfl at_upd rfl (by decide) rfl) rfl rfl ?_
        refine D.opN1 (O.storeRS (by decide) rfl rfl rfl at_upd rfl rfl rfl rfl) rfl ?_
        refine AD ?_
        refine D.skip4 13 (nx1 + 0) (nx1 + 2 + 5) (nx1 + 2 + 4) (by omega) [⟨0, [1], [], []⟩, ⟨1, [2], [], []⟩, ⟨2, [], [], []⟩, ⟨3, [], [], []⟩, ⟨4, [], [4], []⟩, ⟨5, [4], [3], []⟩, ⟨6, [3], [], []⟩, ⟨7, [3], [3], []⟩, ⟨8, [1], [1], []⟩] rfl rfl rfl (by kernel_rfl) ?_
        refine AN ?_
        have hl2 : l2.length = 1 := by rw [htl2, ← htl]; rfl
        refine next (fun x => x = nx1 + 2 + 5) (by omega) (fun o g1 g2 => by omega) (fun o g1 g2 g3 => Eq.trans at_upd (hfr2 o g2 (by omega))) ⟨by omega, .row (nx1 + 2 + 5) l2.length, ?_, .inr ⟨nx1 + 2 + 5, by omega, by omega, rfl, ?_, fun x => Iff.rfl⟩⟩ at_upd
        · rw [hl2]; exact at_upd
        · rw [htk]; exact at_upd
      · have go := (hfr2 o (by omega) (by omega)).trans g4
        refine AN ?_
        refine D.op0 (O.lenR rfl rfl go (by simp [ivs_len])) rfl rfl ?_
        refine AD ?_
        refine D.op1 (O.appRow rfl rfl rfl at_upd (by simp [ivs_len]) rfl (elems_row at_upd rfl) (by decide) (by decide) rfl rfl (by simp only [List.length_cons, List.length_nil, most]; omega)) rfl rfl ?_
        refine D.op0 (O.addrR rfl rfl rfl at_upd rfl (by simp [ivs_len]; omega) rfl) rfl rfl ?_
        refine D.opN1 (O.storeRS (by decide) rfl rfl rfl at_upd rfl (mid_at (by simp [ivs_len])) rfl rfl) rfl ?_
        refine AD ?_
        refine D.skip4 13 (nx1 + 0) o (nx1 + 2 + 4) (by omega) [⟨0, [1], [], []⟩, ⟨1, [2], [], []⟩, ⟨2, [], [], []⟩, ⟨3, [3], [], []⟩, ⟨4, [], [4], []⟩, ⟨5, [3, 4], [3], []⟩, ⟨6, [3], [], []⟩, ⟨7, [3], [3], []⟩, ⟨8, [1], [1], []⟩] rfl rfl rfl (by kernel_rfl) ?_
        refine AN ?_
        refine next own (by omega) (fun o g1 g2 => g2) (fun o2 g6 g7 g8 => ?_) ⟨by omega, .row o l2.length, ?_, .inr ⟨o, by omega, by omega, rfl, ?_, g5⟩⟩ at_upd
        · have hne : o2 ≠ o := fun h => g8 ((g5 o2).2 h)
          exact Eq.trans at_upd (hfr2 o2 g7 (by omega))
        · have hl2 : ∀ c : AV, (((Exp.ivs l1).map AV.imm) ++ [c]).length = l2.length := by intro c; simp [ivs_len]; omega
          refine (upd_same _ _ _).trans ?_
          rw [hl2]; rfl
        · rw [htk, List.map_append]
          refine (upd_ne _ _ _ _ (by omega)).trans ((upd_same _ _ _).trans ?_)
          rw [mid_set (by simp [ivs_len])]
          rfl
    · rintro own G1 nx1 ⟨h0, v, h1, h2⟩ hn
      rw [List.take_length] at h2
      have hp := h2.rdx
      refine AA ?_
      rcases h2 with ⟨h0, rfl, _⟩ | ⟨o, _, _, rfl, _⟩
      · exact W.retFin2 rfl rfl ⟨[], by rw [h0]; rfl⟩
      · exact W.retFin2 rfl rfl ((Rdx.tup (d := 1) (.cons hp (.cons (.imm ..) .nil))).peek (by decide))
    · intro _ _ h; exact h.elim
    · intro _ _ _ h; exact h.elim
  | false =>
    have bt : (!false) = true := rfl
    refine AA ?_
    exact W.retFin2 rfl rfl ⟨[], rfl⟩
theorem ret8 (p : Pgm) (hp : p.Fits) (d : Int) : Ret CC 8 [p.iv, .int .i64 d] (.bool true) := by
  have h31 := ret31 p hp d
  have h32 := ret32 p hp d
  have h33 := ret33 p hp d
  have h34 := ret34 p hp d
  have h14 := ret14
  have h35 : Ret CC 35 [.lst (Exp.ivs (partsR p d)), .lst (Exp.ivs (partsR p d))] (.bool true) := by
    refine ret35 ?_ ?_
    · unfold partsR
      split
      · rename_i h
        obtain ⟨hpr, i, x, rfl, hx⟩ := hasR_at h
        unfold nodesAt
        rw [Int.toNat_natCast, hx]
        have := (countR_good (progR_count hpr)).size x (List.mem_of_getElem? hx)
        dsimp only; omega
      · simp
    · unfold partsR
      split
      · rename_i h
        obtain ⟨hpr, i, x, rfl, hx⟩ := hasR_at h
        unfold nodesAt
        rw [Int.toNat_natCast, hx]
        exact allE_sm (countR_sm (progR_count hpr) x (List.mem_of_getElem? hx))
      · intro e he; cases he
  generalize partsR p d = l at *
  generalize depthR p d = n at *
  generalize errR p d = e at *
  have b1 : (n == n) = true := by simp
  have b2 : (e == e) = true := by simp
  obtain ⟨srcs, defs⟩ := p
  refine Ret.of (fn := Go.Proofs.Try.f8) (by kernel_rfl) rfl rfl ?_
  refine AA ?_
  exact W.retFin1 rfl ⟨[], rfl⟩
end Go.Abs
