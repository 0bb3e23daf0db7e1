/- Comparing, as the program and the reference do. -/
import Derived.Test.YtbdoijpclmhbaaaGreatPart10
open Go Go.Abs
namespace Go.Abs
set_option maxRecDepth 100000
set_option maxHeartbeats 4000000
theorem bne_t {α : Type} [BEq α] [LawfulBEq α] {a b : α} (h : (a != b) = true) : (a == b) = false := by simpa [bne] using h
theorem bne_f {α : Type} [BEq α] [LawfulBEq α] {a b : α} (h : (a != b) = false) : (a == b) = true := by simpa [bne] using h
theorem ret202 (l m : List Str) (hl : l.length ≤ 9223372036854775807) : Ret CC 56 [.lst (l.map sv), .lst (m.map sv)] (.bool (l == m)) := by
  have hlm : (l.map sv).length = l.length := List.length_map ..
  have hmm : (m.map sv).length = m.length := List.length_map ..
  have he : (l == m) = eqF (fun a b => a == b) l m := by
    rw [Bool.eq_iff_iff, beq_iff_eq, eqF_iff (fun a _ b => beq_iff_eq)]
  rw [he]
  generalize hp : (fun (a b : Str) => a == b) = p
  refine Ret.of (fn := Go.Proofs.Tryz.f56) (by kernel_rfl) rfl rfl ?_
  rcases Bool.eq_false_or_eq_true (((l.map sv).length : Int) != ((m.map sv).length : Int)) with hn | hn
  · rw [eqF_len (p := p) (l := l) (m := m) (by rw [hlm, hmm] at hn; simp at hn; omega)]
    refine AA ?_
    exact W.retFin1 rfl ⟨[], rfl⟩
  have hlen : l.length = m.length := by rw [hlm, hmm] at hn; simp at hn; omega
  refine AA ?_
  refine W.loop (X := Nat) (fun i => [(0, .imm (.lst (l.map sv))), (1, .imm (.lst (m.map sv))), (12, .imm (.int .i64 (l.map sv).length)), (13, .imm (.int .i64 i))])
    (fun i _ _ => i ≤ l.length ∧ eqF p l m = eqF p (l.drop i) (m.drop i)) (fun i => l.length - i) 0 .auto ⟨Nat.zero_le _, rfl⟩ ?_
  rintro i nx G ⟨hi, he⟩
  rcases Bool.eq_false_or_eq_true (decide ((i : Int) < ((l.map sv).length : Int))) with hc | hc
  · have hlt : i < l.length := by have := of_decide_eq_true hc; omega
    obtain ⟨d, hx⟩ := at_lt hlt
    obtain ⟨e, hy⟩ := at_lt (l := m) (i := i) (by omega)
    have hxi := at_map sv hx
    have hyi := at_map sv hy
    have hmu : l.length - (i + 1) < l.length - i := by omega
    have hd := eqF_drop (p := p) hx hy
    rw [show p d e = (d == e) from by rw [← hp]] at hd
    cases hb : d == e with
    | true =>
      have hb' : (!(d == e)) = false := by rw [hb]; rfl
      rw [hb] at hd
      refine AA ?_
      exact W.skipLop (i + 1) hmu .auto ⟨hlt, by rw [he, hd]; rfl⟩
    | false =>
      have hb' : (!(d == e)) = true := by rw [hb]; rfl
      rw [hb] at hd
      rw [he, hd]
      refine AA ?_
      exact W.retFin1 rfl ⟨[], rfl⟩
  · have hge : l.length ≤ i := by have := of_decide_eq_false hc; omega
    rw [he, List.drop_eq_nil_of_le hge, List.drop_eq_nil_of_le (by omega)]
    refine AA ?_
    exact W.retFin1 rfl ⟨[], rfl⟩
theorem ret206 {a b : Exp} (h : a.Sm) : Ret CC 59 [a.iv, b.iv] (.bool (a.same b)) := by
  induction h generalizing b with
  | mk op name n fold calcs kids hlc hlk hcs hks ih =>
  obtain ⟨op', name', n', fold', calcs', kids'⟩ := b
  have hr := ret204 (p := Trm.same) (cap := []) fnis207 calcs calcs' (by omega) fun c hc d _ => ret207 (hcs c hc)
  have hr2 := ret205 (p := Exp.same) (cap := []) fnis206 kids kids' (by omega) fun c hc d _ => ih c hc
  rw [Exp.same, Trm.sames_eq, Exp.sames_eq]
  generalize eqF Trm.same calcs calcs' = r at *
  generalize eqF Exp.same kids kids' = r2 at *
  refine Ret.of (fn := Go.Proofs.Tryz.f59) (by kernel_rfl) rfl rfl ?_
  cases hA : op == op' with
  | false =>
    refine AA ?_
    exact W.retFin1 rfl ⟨[], rfl⟩
  | true =>
  cases hB : name == name' with
  | false =>
    refine AA ?_
    exact W.retFin1 rfl ⟨[], rfl⟩
  | true =>
  cases hC : n == n' with
  | false =>
    refine AA ?_
    exact W.retFin1 rfl ⟨[], rfl⟩
  | true =>
  cases hD : fold == fold' with
  | false =>
    refine AA ?_
    exact W.retFin1 rfl ⟨[], rfl⟩
  | true =>
  cases r with
  | false =>
    refine AA ?_
    exact W.retFin1 rfl ⟨[], rfl⟩
  | true =>
    refine AA ?_
    exact W.retFin1 rfl ⟨[], rfl⟩
theorem ret201 {a b : Dfn} (h : a.exp.Sm) : Ret CC 58 [a.iv, b.iv] (.bool (a.same b)) := by
  have hr := ret206 (b := b.exp) h
  obtain ⟨nm, ⟨o1, s1, m1, f1, c1, k1⟩⟩ := a
  obtain ⟨nm', ⟨o2, s2, m2, f2, c2, k2⟩⟩ := b
  unfold Dfn.same
  simp only at hr ⊢
  generalize Exp.same _ _ = r at *
  refine Ret.of (fn := Go.Proofs.Tryz.f58) (by kernel_rfl) rfl rfl ?_
  cases hA : nm == nm' with
  | false =>
    refine AA ?_
    exact W.retFin1 rfl ⟨[], rfl⟩
  | true =>
    refine AA ?_
    exact W.retFin1 rfl ⟨[], rfl⟩
/-! the reference -/
theorem ret94g {a b : Trm} (h : a.Sm) : Ret CC 120 [a.iv, b.iv] (.bool (a.same b)) := by
  induction h generalizing b with
  | mk op n kids hl hk ih =>
  obtain ⟨op', n', kids'⟩ := b
  have hlm := tivs_len kids
  have hlm' := tivs_len kids'
  rw [Trm.same, Trm.sames_eq]
  refine Ret.of (fn := Go.Proofs.Tryz.f120) (by kernel_rfl) rfl rfl ?_
  rcases Bool.eq_false_or_eq_true (op != op') with hA | hA
  · rw [bne_t hA]
    refine AA ?_
    exact W.retFin1 rfl ⟨[], rfl⟩
  rcases Bool.eq_false_or_eq_true (n != n') with hB | hB
  · rw [bne_f hA, bne_t hB]
    refine AA ?_
    exact W.retFin1 rfl ⟨[], rfl⟩
  rw [bne_f hA, bne_f hB]
  rcases Bool.eq_false_or_eq_true (((Trm.ivs kids).length : Int) != ((Trm.ivs kids').length : Int)) with hn | hn
  · rw [eqF_len (p := Trm.same) (l := kids) (m := kids') (by rw [hlm, hlm'] at hn; simp at hn; omega)]
    refine AA ?_
    exact W.retFin1 rfl ⟨[], rfl⟩
  have hlen : kids.length = kids'.length := by rw [hlm, hlm'] at hn; simp at hn; omega
  refine AA ?_
  refine W.loop (X := Nat) (fun i => [(2, .ptr 0 0), (3, .ptr 1 0), (5, .imm (.int .i64 i))])
    (fun i nx G => i ≤ kids.length ∧ G 0 = .box [.imm (.int .i64 op), .imm (.int .i64 n), .imm (.lst (Trm.ivs kids))] false ∧ G 1 = .box [.imm (.int .i64 op'), .imm (.int .i64 n'), .imm (.lst (Trm.ivs kids'))] false ∧ eqF Trm.same kids kids' = eqF Trm.same (kids.drop i) (kids'.drop i))
    (fun i => kids.length - i) 0 .auto ⟨Nat.zero_le _, rfl, rfl, rfl⟩ ?_
  rintro i nx G ⟨hi, h0, h1, he⟩
  rcases Bool.eq_false_or_eq_true (decide ((i : Int) < ((Trm.ivs kids).length : Int))) with hc | hc
  · have hlt : i < kids.length := by have := of_decide_eq_true hc; omega
    obtain ⟨d, hx⟩ := at_lt hlt
    obtain ⟨e, hy⟩ := at_lt (l := kids') (i := i) (by omega)
    have hxi := tivs_at hx
    have hyi := tivs_at hy
    have hdc := d.cells_len
    have hec := e.cells_len
    have hmu : kids.length - (i + 1) < kids.length - i := by omega
    have hr := ih d (List.mem_of_getElem? hx) (b := e)
    have hd := eqF_drop (p := Trm.same) hx hy
    obtain ⟨o1, m1, k1⟩ := d
    obtain ⟨o2, m2, k2⟩ := e
    have b4 : (!true) = false := rfl
    have b5 : (!false) = true := rfl
    cases hb : Trm.same _ _ with
    | true =>
      rw [hb] at hr hd
      refine AA ?_
      exact W.skipLop (i + 1) hmu .auto ⟨hlt, h0, h1, by rw [he, hd]; rfl⟩
    | false =>
      rw [hb] at hr hd
      rw [he, hd]
      refine AA ?_
      exact W.retFin1 rfl ⟨[], rfl⟩
  · have hge : kids.length ≤ i := by have := of_decide_eq_false hc; omega
    rw [he, List.drop_eq_nil_of_le hge, List.drop_eq_nil_of_le (by omega)]
    refine AA ?_
    exact W.retFin1 rfl ⟨[], rfl⟩
theorem ret61g {a b : Exp} (h : a.Sm) : Ret CC 61 [a.iv, b.iv] (.bool (a.same b)) := by
  induction h generalizing b with
  | mk op name n fold calcs kids hlc hlk hcs hks ih =>
  obtain ⟨op', name', n', fold', calcs', kids'⟩ := b
  have hlm := tivs_len calcs
  have hlm' := tivs_len calcs'
  have hkm := ivs_len kids
  have hkm' := ivs_len kids'
  have b4 : (!true) = false := rfl
  have b5 : (!false) = true := rfl
  rw [Exp.same, Trm.sames_eq, Exp.sames_eq]
  refine Ret.of (fn := Go.Proofs.Tryz.f61) (by kernel_rfl) rfl rfl ?_
  rcases Bool.eq_false_or_eq_true (op != op') with hA | hA
  · rw [bne_t hA]
    refine AA ?_
    exact W.retFin1 rfl ⟨[], rfl⟩
  rcases Bool.eq_false_or_eq_true (!(name == name')) with hN | hN
  · rw [bne_f hA, bne_t hN]
    refine AA ?_
    exact W.retFin1 rfl ⟨[], rfl⟩
  rcases Bool.eq_false_or_eq_true (n != n') with hB | hB
  · rw [bne_f hA, bne_f hN, bne_t hB]
    refine AA ?_
    exact W.retFin1 rfl ⟨[], rfl⟩
  rcases Bool.eq_false_or_eq_true (fold != fold') with hF | hF
  · rw [bne_f hA, bne_f hN, bne_f hB, bne_t hF]
    refine AA ?_
    exact W.retFin1 rfl ⟨[], rfl⟩
  rw [bne_f hA, bne_f hN, bne_f hB, bne_f hF]
  rcases Bool.eq_false_or_eq_true (((Trm.ivs calcs).length : Int) != ((Trm.ivs calcs').length : Int)) with hn | hn
  · rw [eqF_len (p := Trm.same) (l := calcs) (m := calcs') (by rw [hlm, hlm'] at hn; simp at hn; omega)]
    refine AA ?_
    exact W.retFin1 rfl ⟨[], rfl⟩
  have hlen : calcs.length = calcs'.length := by rw [hlm, hlm'] at hn; simp at hn; omega
  rcases Bool.eq_false_or_eq_true (((Exp.ivs kids).length : Int) != ((Exp.ivs kids').length : Int)) with hm | hm
  · rw [eqF_len (p := Exp.same) (l := kids) (m := kids') (by rw [hkm, hkm'] at hm; simp at hm; omega), Bool.and_false]
    refine AA ?_
    exact W.retFin1 rfl ⟨[], rfl⟩
  have hlen2 : kids.length = kids'.length := by rw [hkm, hkm'] at hm; simp at hm; omega
  refine AA ?_
  refine W.loop (X := Nat) (fun i => [(2, .ptr 0 0), (3, .ptr 1 0), (5, .imm (.int .i64 i))])
    (fun i nx G => i ≤ calcs.length ∧ G 0 = .box [.imm (.int .i64 op), .imm (sv name), .imm (.int .i64 n), .imm (.int .i64 fold), .imm (.lst (Trm.ivs calcs)), .imm (.lst (Exp.ivs kids))] false ∧ G 1 = .box [.imm (.int .i64 op'), .imm (sv name'), .imm (.int .i64 n'), .imm (.int .i64 fold'), .imm (.lst (Trm.ivs calcs')), .imm (.lst (Exp.ivs kids'))] false ∧ eqF Trm.same calcs calcs' = eqF Trm.same (calcs.drop i) (calcs'.drop i))
    (fun i => calcs.length - i) 0 .auto ⟨Nat.zero_le _, rfl, rfl, rfl⟩ ?_
  rintro i nx G ⟨hi, h0, h1, he⟩
  rcases Bool.eq_false_or_eq_true (decide ((i : Int) < ((Trm.ivs calcs).length : Int))) with hc | hc
  · have hlt : i < calcs.length := by have := of_decide_eq_true hc; omega
    obtain ⟨d, hx⟩ := at_lt hlt
    obtain ⟨e, hy⟩ := at_lt (l := calcs') (i := i) (by omega)
    have hxi := tivs_at hx
    have hyi := tivs_at hy
    have hdc := d.cells_len
    have hec := e.cells_len
    have hmu : calcs.length - (i + 1) < calcs.length - i := by omega
    have hr := ret94g (b := e) (hcs d (List.mem_of_getElem? hx))
    have hd := eqF_drop (p := Trm.same) hx hy
    obtain ⟨o1, m1, k1⟩ := d
    obtain ⟨o2, m2, k2⟩ := e
    cases hb : Trm.same _ _ with
    | true =>
      rw [hb] at hr hd
      refine AA ?_
      exact W.skipLop (i + 1) hmu .auto ⟨hlt, h0, h1, by rw [he, hd]; rfl⟩
    | false =>
      rw [hb] at hr hd
      rw [he, hd]
      refine AA ?_
      exact W.retFin1 rfl ⟨[], rfl⟩
  have hge : calcs.length ≤ i := by have := of_decide_eq_false hc; omega
  rw [he, List.drop_eq_nil_of_le hge, List.drop_eq_nil_of_le (by omega)]
  refine AA ?_
  refine W.loop (X := Nat) (fun i => [(2, .ptr 0 0), (3, .ptr 1 0), (6, .imm (.int .i64 i))])
    (fun i nx G => i ≤ kids.length ∧ G 0 = .box [.imm (.int .i64 op), .imm (sv name), .imm (.int .i64 n), .imm (.int .i64 fold), .imm (.lst (Trm.ivs calcs)), .imm (.lst (Exp.ivs kids))] false ∧ G 1 = .box [.imm (.int .i64 op'), .imm (sv name'), .imm (.int .i64 n'), .imm (.int .i64 fold'), .imm (.lst (Trm.ivs calcs')), .imm (.lst (Exp.ivs kids'))] false ∧ eqF Exp.same kids kids' = eqF Exp.same (kids.drop i) (kids'.drop i))
    (fun i => kids.length - i) 0 .auto ⟨Nat.zero_le _, h0, h1, rfl⟩ ?_
  clear h0 h1 hc he hge hi i G nx
  rintro i nx G ⟨hi, h0, h1, he⟩
  rcases Bool.eq_false_or_eq_true (decide ((i : Int) < ((Exp.ivs kids).length : Int))) with hc | hc
  · have hlt : i < kids.length := by have := of_decide_eq_true hc; omega
    obtain ⟨d, hx⟩ := at_lt hlt
    obtain ⟨e, hy⟩ := at_lt (l := kids') (i := i) (by omega)
    have hxi := ivs_at hx
    have hyi := ivs_at hy
    have hdc := d.cells_len
    have hec := e.cells_len
    have hmu : kids.length - (i + 1) < kids.length - i := by omega
    have hr := ih d (List.mem_of_getElem? hx) (b := e)
    have hd := eqF_drop (p := Exp.same) hx hy
    obtain ⟨o1, s1, m1, f1, c1, k1⟩ := d
    obtain ⟨o2, s2, m2, f2, c2, k2⟩ := e
    cases hb : Exp.same _ _ with
    | true =>
      rw [hb] at hr hd
      refine AA ?_
      exact W.skipLop (i + 1) hmu .auto ⟨hlt, h0, h1, by rw [he, hd]; rfl⟩
    | false =>
      rw [hb] at hr hd
      rw [he, hd]
      refine AA ?_
      exact W.retFin1 rfl ⟨[], rfl⟩
  · have hge : kids.length ≤ i := by have := of_decide_eq_false hc; omega
    rw [he, List.drop_eq_nil_of_le hge, List.drop_eq_nil_of_le (by omega)]
    refine AA ?_
    exact W.retFin1 rfl ⟨[], rfl⟩
theorem ret60g (l m : List Str) (hl : l.length ≤ 9223372036854775807) : Ret CC 60 [.lst (l.map sv), .lst (m.map sv)] (.bool (l == m)) := by
  have hlm : (l.map sv).length = l.length := List.length_map ..
  have hmm : (m.map sv).length = m.length := List.length_map ..
  have he : (l == m) = eqF (fun a b => a == b) l m := by
    rw [Bool.eq_iff_iff, beq_iff_eq, eqF_iff (fun a _ b => beq_iff_eq)]
  rw [he]
  generalize hp : (fun (a b : Str) => a == b) = p
  refine Ret.of (fn := Go.Proofs.Tryz.f60) (by kernel_rfl) rfl rfl ?_
  rcases Bool.eq_false_or_eq_true (((l.map sv).length : Int) != ((m.map sv).length : Int)) with hn | hn
  · rw [eqF_len (p := p) (l := l) (m := m) (by rw [hlm, hmm] at hn; simp at hn; omega)]
    refine AA ?_
    exact W.retFin1 rfl ⟨[], rfl⟩
  have hlen : l.length = m.length := by rw [hlm, hmm] at hn; simp at hn; omega
  refine AA ?_
  refine W.loop (X := Nat) (fun i => [(0, .imm (.lst (l.map sv))), (1, .imm (.lst (m.map sv))), (5, .imm (.int .i64 i))])
    (fun i _ _ => i ≤ l.length ∧ eqF p l m = eqF p (l.drop i) (m.drop i)) (fun i => l.length - i) 0 .auto ⟨Nat.zero_le _, rfl⟩ ?_
  rintro i nx G ⟨hi, he⟩
  rcases Bool.eq_false_or_eq_true (decide ((i : Int) < ((l.map sv).length : Int))) with hc | hc
  · have hlt : i < l.length := by have := of_decide_eq_true hc; omega
    obtain ⟨d, hx⟩ := at_lt hlt
    obtain ⟨e, hy⟩ := at_lt (l := m) (i := i) (by omega)
    have hxi := at_map sv hx
    have hyi := at_map sv hy
    have hmu : l.length - (i + 1) < l.length - i := by omega
    have hd := eqF_drop (p := p) hx hy
    rw [show p d e = (d == e) from by rw [← hp]] at hd
    cases hb : d == e with
    | true =>
      have hb' : (!(d == e)) = false := by rw [hb]; rfl
      rw [hb] at hd
      refine AA ?_
      exact W.skipLop (i + 1) hmu .auto ⟨hlt, by rw [he, hd]; rfl⟩
    | false =>
      have hb' : (!(d == e)) = true := by rw [hb]; rfl
      rw [hb] at hd
      rw [he, hd]
      refine AA ?_
      exact W.retFin1 rfl ⟨[], rfl⟩
  · have hge : l.length ≤ i := by have := of_decide_eq_false hc; omega
    rw [he, List.drop_eq_nil_of_le hge, List.drop_eq_nil_of_le (by omega)]
    refine AA ?_
    exact W.retFin1 rfl ⟨[], rfl⟩
theorem ret23g {p q : Pgm} (hs : p.srcs.length ≤ 9223372036854775807) (hd : p.defs.length ≤ 9223372036854775807) (h : ∀ d ∈ p.defs, d.exp.Sm) : Ret CC 18 [p.iv, q.iv] (.bool (p.same q)) := by
  have h60 := ret60g p.srcs q.srcs hs
  obtain ⟨srcs, defs⟩ := p
  obtain ⟨srcs', defs'⟩ := q
  unfold Pgm.same
  simp only at h60 hd h ⊢
  generalize (srcs == srcs') = r at *
  have hdm : (defs.map Dfn.iv).length = defs.length := List.length_map ..
  have hdm' : (defs'.map Dfn.iv).length = defs'.length := List.length_map ..
  have b4 : (!true) = false := rfl
  have b5 : (!false) = true := rfl
  refine Ret.of (fn := Go.Proofs.Tryz.f18) (by kernel_rfl) rfl rfl ?_
  cases r with
  | false =>
    refine AA ?_
    exact W.retFin1 rfl ⟨[], rfl⟩
  | true =>
  rcases Bool.eq_false_or_eq_true (((defs.map Dfn.iv).length : Int) != ((defs'.map Dfn.iv).length : Int)) with hn | hn
  · rw [eqF_len (p := Dfn.same) (l := defs) (m := defs') (by rw [hdm, hdm'] at hn; simp at hn; omega)]
    refine AA ?_
    exact W.retFin1 rfl ⟨[], rfl⟩
  have hlen : defs.length = defs'.length := by rw [hdm, hdm'] at hn; simp at hn; omega
  refine AA ?_
  refine W.loop (X := Nat) (fun i => [(2, .ptr 0 0), (3, .ptr 1 0), (5, .imm (.int .i64 i))])
    (fun i nx G => i ≤ defs.length ∧ G 0 = .box [.imm (.lst (srcs.map sv)), .imm (.lst (defs.map Dfn.iv))] false ∧ G 1 = .box [.imm (.lst (srcs'.map sv)), .imm (.lst (defs'.map Dfn.iv))] false ∧ eqF Dfn.same defs defs' = eqF Dfn.same (defs.drop i) (defs'.drop i)) (fun i => defs.length - i) 0 .auto ⟨Nat.zero_le _, rfl, rfl, rfl⟩ ?_
  rintro i nx G ⟨hi, h0, h1, he⟩
  rcases Bool.eq_false_or_eq_true (decide ((i : Int) < ((defs.map Dfn.iv).length : Int))) with hc | hc
  · have hlt : i < defs.length := by have := of_decide_eq_true hc; omega
    obtain ⟨d, hx⟩ := at_lt hlt
    obtain ⟨e, hy⟩ := at_lt (l := defs') (i := i) (by omega)
    have hxi := at_map Dfn.iv hx
    have hyi := at_map Dfn.iv hy
    have hdc := d.cells_len
    have hec := e.cells_len
    have hmu : defs.length - (i + 1) < defs.length - i := by omega
    have hr := ret61g (b := e.exp) (h d (List.mem_of_getElem? hx))
    have hd := eqF_drop (p := Dfn.same) hx hy
    unfold Dfn.same at hd
    obtain ⟨nm, ⟨o1, s1, m1, f1, c1, k1⟩⟩ := d
    obtain ⟨nm', ⟨o2, s2, m2, f2, c2, k2⟩⟩ := e
    simp only at hr hd
    rcases Bool.eq_false_or_eq_true (!(nm == nm')) with hA | hA
    · rw [bne_t hA] at hd
      rw [he, show eqF Dfn.same (defs.drop i) (defs'.drop i) = false from hd]
      refine AA ?_
      exact W.retFin1 rfl ⟨[], rfl⟩
    rw [bne_f hA] at hd
    cases hb : Exp.same _ _ with
    | true =>
      rw [hb] at hr hd
      refine AA ?_
      exact W.skipLop (i + 1) hmu .auto ⟨hlt, h0, h1, by rw [he]; exact hd⟩
    | false =>
      rw [hb] at hr hd
      rw [he, show eqF Dfn.same (defs.drop i) (defs'.drop i) = false from hd]
      refine AA ?_
      exact W.retFin1 rfl ⟨[], rfl⟩
  · have hge : defs.length ≤ i := by have := of_decide_eq_false hc; omega
    rw [he, List.drop_eq_nil_of_le hge, List.drop_eq_nil_of_le (by omega)]
    refine AA ?_
    exact W.retFin1 rfl ⟨[], rfl⟩
end Go.Abs

/- Names: the first one that is none of some. -/
open Go Go.Abs
namespace Go.Abs
set_option maxRecDepth 100000
set_option maxHeartbeats 2000000
theorem word_kid (n c : Nat) (hc : c < 26) : wordN (26 * n + 1 + c) = wordN n ++ [UInt8.ofNat (97 + c)] := by
  have e : 26 * n + 1 + c = (26 * n + c) + 1 := by omega
  rw [e, wordN_succ]
  have h1 : (26 * n + c) / 26 = n := by omega
  have h2 : (26 * n + c) % 26 = c := by omega
  rw [h1, h2]
def wrow (a m : Nat) : List AV := (List.range m).map fun j => .imm (sv (wordN (a + j)))
theorem wrow_len (a m : Nat) : (wrow a m).length = m := by simp [wrow]
theorem wrow_get {a m j : Nat} (h : j < m) : (wrow a m)[j]? = some (.imm (sv (wordN (a + j)))) := by simp [wrow, h]
theorem wrow_succ (a m : Nat) : wrow a m ++ [.imm (sv (wordN (a + m)))] = wrow a (m + 1) := by simp [wrow, List.range_succ]
structure Cons (q n0 N : Nat) (K Q : (Nat → Obj) → Prop) : Prop where
  frame : ∀ G G', K G → (∀ o, o < n0 → G' o = G o) → K G'
  step : ∀ n G nx, 1 ≤ n → n < N → K G → n0 ≤ nx → Rnd CC q [.imm (sv (wordN n))] G nx fun v G' nx' => v = .imm (.bool true) ∧ K G' ∧ nx ≤ nx' ∧ ∀ o, n0 ≤ o → G' o = G o
  last : ∀ G nx, K G → n0 ≤ nx → Rnd CC q [.imm (sv (wordN N))] G nx fun v G' _ => v = .imm (.bool false) ∧ Q G'
def Long (n0 nx o2 a cnt : Nat) (G : Nat → Obj) (v : AV) : Prop :=
  (cnt = 0 ∧ v = .nils) ∨ ∃ o, n0 ≤ o ∧ o < nx ∧ o ≠ o2 ∧ v = .row o cnt ∧ G o = .row 9 1 (wrow (26 * a + 1) cnt) false ∧ 0 < cnt
theorem Long.frame {n0 nx nx' o2 a cnt : Nat} {G G' : Nat → Obj} {v : AV} (h : Long n0 nx o2 a cnt G v) (hn : nx ≤ nx') (hG : ∀ o, n0 ≤ o → o < nx → G' o = G o) : Long n0 nx' o2 a cnt G' v := by
  rcases h with h | ⟨o, h1, h2, h3, h4, h5, h6⟩
  · exact .inl h
  · exact .inr ⟨o, h1, by omega, h3, h4, by rw [hG o h1 h2]; exact h5, h6⟩
theorem cal41 {q n0 N : Nat} {G0 : Nat → Obj} {K Q : (Nat → Obj) → Prop} (hc : Cons q n0 N K Q) (hN1 : 1 ≤ N) (hN : N ≤ 4294967296) (hG : K G0) : Cal CC 107 [.yld q] G0 n0 fun _ G' _ => Q G' := by
  refine Cal.of (fn := Go.Proofs.Tryz.f107) (by kernel_rfl) rfl rfl ?_
  refine W.seq (W.region ?_)
  refine R.op1 (O.buildS (xs := [.imm (sv [])]) rfl rfl rfl (by decide) rfl rfl (by decide)) rfl ?_
  refine SO ?_
  -- the rows
  refine W.loop (X := Nat × Nat × Nat) (fun x => [(0, .yld q), (2, .row x.1 x.2.2)])
    (fun x nx G => n0 ≤ x.1 ∧ x.1 < nx ∧ n0 ≤ nx ∧ K G ∧ G x.1 = .row 9 1 (wrow x.2.1 x.2.2) false ∧ x.2.1 + x.2.2 = 26 * x.2.1 + 1 ∧ 26 * x.2.1 < N) (fun x => N - x.2.1) (n0 + 0, 0, 1)
    (.cons rfl (.cons rfl (.nil _))) ⟨by simp, by simp, by simp, ?_, ?_, rfl, by show 26 * 0 < N; omega⟩ ?_
  · exact hc.frame _ _ hG fun o ho => upd_ne _ _ _ _ (by omega)
  · rw [upd_same]
    have : wordN 0 = [] := by rw [wordN]
    simp [wrow, List.range_succ, this]
    rfl
  rintro ⟨o2, a, m⟩ nx G ⟨h1, h2, h3, hK, hR, ham, haN⟩
  dsimp only at h1 h2 hR ham haN ⊢
  refine SO ?_
  refine R.op0 (O.lenR rfl rfl hR (wrow_len a m)) rfl ?_
  refine SO ?_
  -- the words of a row
  refine W.loop (X := Nat × AV) (fun x => [(0, .yld q), (9, .row o2 m), (10, .imm (.int .i64 m)), (11, .imm (.int .i64 x.1)), (3, x.2)])
    (fun x nx G => o2 < nx ∧ n0 ≤ nx ∧ K G ∧ G o2 = .row 9 1 (wrow a m) false ∧ x.1 ≤ m ∧ 26 * (a + x.1) < N ∧ Long n0 nx o2 a (26 * x.1) G x.2) (fun x => m - x.1) (0, .nils)
    (.cons rfl (.cons rfl (.cons rfl (.cons rfl (.cons rfl (.nil _)))))) ⟨by omega, by omega, hK, hR, Nat.zero_le _, by simpa using haN, .inl ⟨rfl, rfl⟩⟩ ?_
  rintro ⟨j, v⟩ nx G ⟨h2, h3, hK, hR, hj, hjN, hL⟩
  dsimp only at hj hjN hL ⊢
  refine SO ?_
  refine W.cond rfl (fun hc1 => ?_) (fun hc1 => ?_)
  · have hlt : j < m := by have := of_decide_eq_true hc1; omega
    refine SO ?_
    refine R.op0 (O.addrR rfl rfl rfl hR (wrow_len a m) ⟨by omega, by omega⟩ rfl) rfl ?_
    refine R.op0 (O.loadR rfl hR (wrow_len a m) (by rw [Int.toNat_natCast]; exact wrow_get hlt) rfl rfl rfl) rfl ?_
    refine SO ?_
    -- the letters
    refine W.loop (X := Nat × AV) (fun x => [(0, .yld q), (9, .row o2 m), (10, .imm (.int .i64 m)), (11, .imm (.int .i64 j)), (5, .imm (sv (wordN (a + j)))), (6, .imm (.int .u8 ((97 + x.1 : Nat) : Int))), (3, x.2)])
      (fun x nx G => o2 < nx ∧ n0 ≤ nx ∧ K G ∧ G o2 = .row 9 1 (wrow a m) false ∧ x.1 ≤ 26 ∧ 26 * (a + j) + x.1 < N ∧ Long n0 nx o2 a (26 * j + x.1) G x.2) (fun x => 26 - x.1) (0, v)
      (.cons rfl (.cons rfl (.cons rfl (.cons rfl (.cons rfl (.cons rfl (.cons rfl (.nil _)))))))) ⟨by omega, by omega, hK, hR, Nat.zero_le _, by simpa using hjN, hL.frame (by omega) fun _ _ _ => rfl⟩ ?_
    rintro ⟨c, u⟩ nx G ⟨h2, h3, hK, hR, hc26, hcN, hL⟩
    dsimp only at hc26 hcN hL ⊢
    refine SO ?_
    refine W.cond rfl (fun hc2 => ?_) (fun hc2 => ?_)
    · have hc' : c < 26 := by have := of_decide_eq_true hc2; omega
      refine SO ?_
      refine R.op1 (O.buildS (xs := [.imm (.int .u8 ((97 + c : Nat) : Int))]) rfl rfl rfl (by decide) rfl rfl (by decide)) rfl ?_
      refine R.op0 (O.convBS (ys := [.imm (.int .u8 ((97 + c : Nat) : Int))]) (bs := [UInt8.ofNat (97 + c)]) rfl rfl rfl rfl rfl ?_ ?_) rfl ?_
      · simp [elems, upd]
      · simp only [bytesOf, Option.map_some]
        congr 3
      refine R.op0 (O.svAdd (a := wordN (a + j)) (b := [UInt8.ofNat (97 + c)]) rfl rfl ?_) rfl ?_
      · have := wordN_len (a + j)
        simp; omega
      rw [← word_kid (a + j) c hc']
      refine SO ?_
      refine R.gen (P := fun G nx _ => o2 < nx ∧ n0 ≤ nx ∧ K G ∧ G o2 = .row 9 1 (wrow a m) false ∧ Long n0 nx o2 a (26 * j + c) G u) ⟨by omega, by omega, hc.frame _ _ hK fun o ho => upd_ne _ _ _ _ (by omega), (upd_ne _ _ _ _ (by omega)).trans hR, hL.frame (by omega) fun o _ ho => upd_ne _ _ _ _ (by omega)⟩ ?_
      clear hL hR hK h3 h2
      intro G nx base ⟨h2, h3, hK, hR, hL⟩
      refine R.round rfl rfl rfl ?_
      by_cases hn : 26 * (a + j) + 1 + c = N
      · rw [hn]
        refine (hc.last G nx hK h3).mono fun v G' nx' ⟨hv, hQ⟩ => ?_
        subst hv
        refine SO ?_
        exact W.retFin rfl rfl hQ
      · refine (hc.step _ G nx (by omega) (by omega) hK h3).mono fun v G' nx' ⟨hv, hK', hn', hG'⟩ => ?_
        subst hv
        have hR' : G' o2 = .row 9 1 (wrow a m) false := (hG' o2 h1).trans hR
        have hL' : Long n0 nx' o2 a (26 * j + c) G' u := hL.frame hn' fun o ho _ => hG' o ho
        have h2' : o2 < nx' := by omega
        have h3' : n0 ≤ nx' := by omega
        clear hL hR hK h3 h2 hn' hG'
        refine SO ?_
        refine R.op1 (O.buildS (xs := [.imm (sv (wordN (26 * (a + j) + 1 + c)))]) rfl rfl rfl (by decide) rfl rfl (by decide)) rfl ?_
        rcases hL' with ⟨hz, hu⟩ | ⟨o, ho1, ho2, ho3, ho4, ho5, ho6⟩
        · subst hu
          refine R.op1 (O.appNil (ys := [.imm (sv (wordN (26 * (a + j) + 1 + c)))]) rfl rfl rfl rfl (by simp [elems, upd]) (by decide) (by decide) rfl rfl (by simp [most])) rfl ?_
          refine R.gen (P := fun G nx _ => o2 < nx ∧ n0 ≤ nx ∧ K G ∧ G o2 = .row 9 1 (wrow a m) false ∧ Long n0 nx o2 a (26 * j + (c + 1)) G (.row (nx' + (0 + 1 + 1 + 1)) [AV.imm (sv (wordN (26 * (a + j) + 1 + c)))].length)) ⟨by omega, by omega, ?_, ?_, ?_⟩ ?_
          · exact hc.frame _ _ hK' fun o ho => by rw [upd_ne _ _ _ _ (by omega), upd_ne _ _ _ _ (by omega)]
          · rw [upd_ne _ _ _ _ (by omega), upd_ne _ _ _ _ (by omega)]; exact hR'
          · refine .inr ⟨nx' + (0 + 1 + 1 + 1), by omega, ?_, ?_, ?_, ?_, by omega⟩
            · simp only [List.length_cons, List.length_nil]; omega
            · omega
            · have : 26 * j + (c + 1) = 1 := by omega
              rw [this]; rfl
            · rw [upd_same]
              have : 26 * j + (c + 1) = 1 := by omega
              rw [this]
              have : 26 * (a + j) + 1 + c = 26 * a + 1 := by omega
              rw [this]
              rfl
          clear hR' hK' h2' h3'
          intro G nx base ⟨h2, h3, hK, hR, hL⟩
          refine SO ?_
          refine W.skipLop (c + 1, _) ?_ ?_ ⟨by omega, by omega, hK, hR, by show c + 1 ≤ 26; omega, by show 26 * (a + j) + (c + 1) < N; omega, hL.frame (by omega) fun _ _ _ => rfl⟩
          · show 26 - (c + 1) < 26 - c; omega
          · exact .cons rfl (.cons rfl (.cons rfl (.cons rfl (.cons rfl (.cons rfl (.cons rfl (.nil _)))))))
        · subst ho4
          refine R.op1 (O.appRow (xs := wrow (26 * a + 1) (26 * j + c)) (ys := [.imm (sv (wordN (26 * (a + j) + 1 + c)))]) rfl rfl rfl ((upd_ne _ _ _ _ (by omega)).trans ho5) (wrow_len _ _) rfl (by simp [elems, upd]) (by decide) (by decide) rfl rfl (by simp [most]; omega)) rfl ?_
          refine R.gen (P := fun G nx _ => o2 < nx ∧ n0 ≤ nx ∧ K G ∧ G o2 = .row 9 1 (wrow a m) false ∧ Long n0 nx o2 a (26 * j + (c + 1)) G (.row o (wrow (26 * a + 1) (26 * j + c) ++ [AV.imm (sv (wordN (26 * (a + j) + 1 + c)))]).length)) ⟨by omega, by omega, ?_, ?_, ?_⟩ ?_
          · exact hc.frame _ _ hK' fun o ho => by rw [upd_ne _ _ _ _ (by omega), upd_ne _ _ _ _ (by omega)]
          · rw [upd_ne _ _ _ _ (by omega), upd_ne _ _ _ _ (by omega)]; exact hR'
          · refine .inr ⟨o, ho1, by omega, ho3, ?_, ?_, by omega⟩
            · rw [List.length_append, wrow_len]; rfl
            · rw [upd_same]
              have : 26 * (a + j) + 1 + c = 26 * a + 1 + (26 * j + c) := by omega
              rw [this, wrow_succ]
              rfl
          clear hR' hK' h2' h3'
          intro G nx base ⟨h2, h3, hK, hR, hL⟩
          refine SO ?_
          refine W.skipLop (c + 1, _) ?_ ?_ ⟨by omega, by omega, hK, hR, by show c + 1 ≤ 26; omega, by show 26 * (a + j) + (c + 1) < N; omega, hL.frame (by omega) fun _ _ _ => rfl⟩
          · show 26 - (c + 1) < 26 - c; omega
          · exact .cons rfl (.cons rfl (.cons rfl (.cons rfl (.cons rfl (.cons rfl (.cons rfl (.nil _)))))))
    · have hc' : c = 26 := by have := of_decide_eq_false hc2; omega
      subst hc'
      refine SO ?_
      refine W.skipLop (j + 1, u) ?_ ?_ ⟨by omega, by omega, hK, hR, hlt, by show 26 * (a + (j + 1)) < N; omega, ?_⟩
      · show m - (j + 1) < m - j; omega
      · exact .cons rfl (.cons rfl (.cons rfl (.cons rfl (.cons rfl (.nil _)))))
      · exact hL.frame (by omega) fun _ _ _ => rfl
  · have hge : j = m := by have := of_decide_eq_false hc1; omega
    subst hge
    refine SO ?_
    rcases hL with ⟨hz, hu⟩ | ⟨o, ho1, ho2, ho3, ho4, ho5, ho6⟩
    · omega
    · subst ho4
      refine W.skipLop (o, 26 * a + 1, 26 * j) ?_ ?_ ⟨ho1, by show o < _; omega, by omega, hK, ho5, by show 26 * a + 1 + 26 * j = 26 * (26 * a + 1) + 1; omega, by show 26 * (26 * a + 1) < N; omega⟩
      · show N - (26 * a + 1) < N - a; omega
      · exact .cons rfl (.cons rfl (.nil _))
def rng1 : Code → Option (Code × Code)
  | .seq a b => match rng1 a with
    | some x => some x
    | none => rng1 b
  | .block _ b | .loop b => rng1 b
  | .rangeFunc _ _ a b => some (a, b)
  | _ => none
noncomputable def f12R : Code × Code := match Go.Proofs.Tryz.f53.body with
  | some b => match rng1 b with
    | some x => x
    | none => (.skip, .skip)
  | none => (.skip, .skip)
theorem ret12 (l0 : List Str) (hl : l0.length ≤ 9223372036854775807) (N : Nat) (h : First l0 N) : Ret CC 53 [.lst (l0.map sv)] (sv (wordN N)) := by
  refine Ret.of (fn := Go.Proofs.Tryz.f53) (by kernel_rfl) rfl rfl ?_
  refine W.seq (W.region ?_)
  refine R.op1 (O.box1 rfl rfl rfl rfl) rfl ?_
  refine R.op1 (O.alloc rfl rfl) rfl ?_
  refine R.done ?_
  refine W.seq (W.block ?_)
  refine W.range rfl rfl rfl rfl fun t ht => ?_
  refine (cal41 (q := 2) (n0 := 4) (N := N) (K := fun G => G 0 = .box [.imm (.lst (l0.map sv))] false ∧ G 1 = .box [.imm (.str ⟨#[]⟩)] false ∧ ∃ t e, G 2 = .lp t Go.Proofs.Tryz.f53.ntmps [4] f12R.1 f12R.2 53 0 e ∧ Agree t [(1, .ptr 0 0), (2, .ptr 1 0)])
    (Q := fun G => G 1 = .box [.imm (sv (wordN N))] false ∧ ∃ t, G 2 = .lp t Go.Proofs.Tryz.f53.ntmps [4] f12R.1 f12R.2 53 2 (some .ret)) ⟨?_, ?_, ?_⟩ h.pos h.small ⟨rfl, rfl, t, none, rfl, ?_⟩).mono ?_
  · intro G G' ⟨h0, h1, t, e, h2, ha⟩ hf
    exact ⟨(hf 0 (by omega)).trans h0, (hf 1 (by omega)).trans h1, t, e, (hf 2 (by omega)).trans h2, ha⟩
  · intro n G nx hn1 hnN ⟨hb0, hb1, t, e, hl2, ha⟩ hnx
    have hw := wordN_len n
    have hs := h.small
    have hbad := h.least n hn1 hnN
    refine Rnd.of hl2 ha rfl rfl ?_
    refine W.region ?_
    refine R.op0 (O.assign rfl) rfl ?_
    refine R.doneAst hl2 ?_
    refine W.block (W.seq (W.region ?_))
    refine R.op0 (O.move rfl) rfl ?_
    refine R.op0 (O.call rfl rfl (ret10 (wordN n) (by omega))) rfl ?_
    refine SO ?_
    have fin : ∀ {l : Env} {nx' : Nat}, nx ≤ nx' → W CC 53 Go.Proofs.Tryz.f53.ntmps .skip l (upd G 2 (.lp t Go.Proofs.Tryz.f53.ntmps [4] f12R.1 f12R.2 53 1 e)) nx' [] .rnd
        (frd 2 fun v G' nx' => v = .imm (.bool true) ∧ (G' 0 = .box [.imm (.lst (l0.map sv))] false ∧ G' 1 = .box [.imm (.str ⟨#[]⟩)] false ∧ ∃ t e, G' 2 = .lp t Go.Proofs.Tryz.f53.ntmps [4] f12R.1 f12R.2 53 0 e ∧ Agree t [(1, .ptr 0 0), (2, .ptr 1 0)]) ∧ nx ≤ nx' ∧ ∀ o, 4 ≤ o → G' o = G o) := by
      intro l nx' hx
      refine W.skipFrd (upd_same _ _ _) ⟨rfl, ⟨?_, ?_, t, none, upd_same _ _ _, ha⟩, hx, fun o ho => ?_⟩
      · rw [upd_ne _ _ _ _ (by omega), upd_ne _ _ _ _ (by omega)]; exact hb0
      · rw [upd_ne _ _ _ _ (by omega), upd_ne _ _ _ _ (by omega)]; exact hb1
      · rw [upd_ne _ _ _ _ (by omega), upd_ne _ _ _ _ (by omega)]
    refine R.guardC1 rfl rfl rfl (fun h1 => ?_) (fun h1 => ?_)
    · refine R.op0 (O.loadB rfl ((upd_ne _ _ _ _ (by omega)).trans hb0) rfl rfl) rfl ?_
      refine SO ?_
      refine R.op0 (O.call rfl rfl (ret42 l0 (wordN n) hl)) rfl ?_
      refine SO ?_
      refine W.cond rfl (fun h2 => ?_) (fun h2 => ?_)
      · rw [good, h1, h2] at hbad; cases hbad
      · refine SO ?_
        exact fin (by omega)
    · refine SO ?_
      exact fin (by omega)
  · intro G nx ⟨hb0, hb1, t, e, hl2, ha⟩ hnx
    have hw := wordN_len N
    have hs := h.small
    have hgood := h.good
    rw [good, Bool.and_eq_true] at hgood
    refine Rnd.of hl2 ha rfl rfl ?_
    refine W.region ?_
    refine R.op0 (O.assign rfl) rfl ?_
    refine R.doneAst hl2 ?_
    refine W.block (W.seq (W.region ?_))
    refine R.op0 (O.move rfl) rfl ?_
    refine R.op0 (O.call rfl rfl (ret10 (wordN N) (by omega))) rfl ?_
    have h1 := hgood.1
    have h2 := hgood.2
    refine SO ?_
    refine R.op0 (O.call rfl rfl (ret42 l0 (wordN N) hl)) rfl ?_
    refine SO ?_
    refine R.opN1 (O.storeB rfl rfl ((upd_ne _ _ _ _ (by omega)).trans hb1) rfl rfl rfl) ?_
    refine SO ?_
    refine W.retFrd ((upd_ne _ _ _ _ (by omega)).trans (upd_same _ _ _)) ⟨rfl, ?_, t, upd_same _ _ _⟩
    rw [upd_ne _ _ _ _ (by omega), upd_same]
  · exact ht.sub (.cons rfl (.cons rfl (.nil _)))
  · intro v G' nx' ⟨h1, t2, h2⟩
    refine ⟨_, _, _, _, _, _, _, _, h2, by decide, ?_⟩
    have hW : W CC 53 Go.Proofs.Tryz.f53.ntmps .ret [(1, .ptr 0 0), (2, .ptr 1 0)] (upd G' 2 .gone) nx' [] .no (fin CC [.cell 2 9] fun v G x => ∃ ids, peek G pkDepth v = some (sv (wordN N), ids)) :=
      W.retFinC (o := 1) rfl ((upd_ne _ _ _ _ (by omega)).trans h1) rfl rfl ⟨[], rfl⟩
    exact hW.retI t fun i v hv => ht i v (by
      have := (Sub.cons rfl (Sub.cons rfl (Sub.nil _)) : Sub [(1, .ptr 0 0), (2, .ptr 1 0)] ((2, AV.ptr (0 + (0 + 1)) 0) :: (1, AV.ptr (0 + 0) 0) :: envOf 0 (List.map AV.imm [IV.lst (List.map sv l0)])))
      exact this i v hv)
end Go.Abs

/- Names: there is one that is none of some. -/
open Go Go.Abs
namespace Go.Abs
theorem wordN_zero : wordN 0 = [] := by rw [wordN]
theorem wordN_inj : ∀ n m, wordN n = wordN m → n = m := by
  intro n
  induction n using Nat.strongRecOn with
  | _ n ih =>
    intro m h
    cases n with
    | zero =>
      cases m with
      | zero => rfl
      | succ m => rw [wordN_zero, wordN_succ] at h; simp at h
    | succ n =>
      cases m with
      | zero => rw [wordN_zero, wordN_succ] at h; simp at h
      | succ m =>
        rw [wordN_succ, wordN_succ] at h
        have h1 := List.append_inj_left' h rfl
        have h2 := List.append_inj_right' h rfl
        have h3 := ih (n / 26) (by omega) _ h1
        have h4 : n % 26 = m % 26 := by
          have := congrArg UInt8.toNat (List.cons.inj h2).1
          simp only [UInt8.toNat_ofNat'] at this
          omega
        omega
theorem wordN_short : ∀ k n, n < 26 ^ k → (wordN n).length ≤ k
  | 0, n, h => by
    have : n = 0 := by simpa using h
    rw [this, wordN_zero]; simp
  | k + 1, n, h => by
    cases n with
    | zero => rw [wordN_zero]; simp
    | succ n =>
      rw [wordN_succ]
      have := wordN_short k (n / 26) (by rw [Nat.pow_succ] at h; omega)
      simp; omega
theorem wordN_low : ∀ n, lows (wordN n) = true := by
  intro n
  induction n using Nat.strongRecOn with
  | _ n ih =>
    cases n with
    | zero => rw [wordN_zero]; rfl
    | succ n =>
      have h := ih (n / 26) (by omega)
      have hc : ∀ r, r < 26 → okc (UInt8.ofNat (97 + r)) = true := by decide
      rw [wordN_succ]
      unfold lows at h ⊢
      rw [List.all_append, h, List.all_cons, hc _ (Nat.mod_lt _ (by omega))]
      rfl
theorem name_word {n : Nat} (h1 : 1 ≤ n) (h : n < 26 ^ 8) : nameOk (wordN n) = !kws.contains (wordN n) := by
  have h2 := wordN_short 8 n h
  have h3 : 0 < (wordN n).length := by
    cases n with
    | zero => omega
    | succ n => rw [wordN_succ]; simp
  rw [nameOk, wordN_low, decide_eq_true h3, decide_eq_true h2]
  simp
theorem nodup_len : ∀ (a b : List Str), a.Nodup → (∀ x ∈ a, x ∈ b) → a.length ≤ b.length
  | [], _, _, _ => Nat.zero_le _
  | x :: r, b, hn, hs => by
    rw [List.nodup_cons] at hn
    have hx := hs x (by simp)
    have h1 := nodup_len r (b.erase x) hn.2 (fun y hy => by
      have hne : y ≠ x := fun e => hn.1 (e ▸ hy)
      exact (List.mem_erase_of_ne hne).2 (hs y (by simp [hy])))
    rw [List.length_erase_of_mem hx] at h1
    have := List.length_pos_of_mem hx
    simp
    omega
theorem least_of {p : Nat → Bool} : ∀ n, p n = true → 1 ≤ n → ∃ m, 1 ≤ m ∧ m ≤ n ∧ p m = true ∧ ∀ k, 1 ≤ k → k < m → p k = false := by
  intro n
  induction n using Nat.strongRecOn with
  | _ n ih =>
    intro h hn
    by_cases hk : ∃ k, 1 ≤ k ∧ k < n ∧ p k = true
    · obtain ⟨k, h1, h2, h3⟩ := hk
      obtain ⟨m, a, b, c⟩ := ih k h2 h3 h1
      exact ⟨m, a, by omega, c⟩
    · exact ⟨n, hn, Nat.le_refl _, h, fun k h1 h2 => by
        cases e : p k with
        | false => rfl
        | true => exact absurd ⟨k, h1, h2, e⟩ hk⟩
theorem exists_first (l : List Str) (hl : l.length ≤ 1048576) : ∃ N, First l N := by
  have key : ∃ n, 1 ≤ n ∧ n ≤ l.length + 35 ∧ good l n = true := by
    refine Classical.byContradiction fun hno => ?_
    have h : ∀ n, 1 ≤ n → n ≤ l.length + 35 → wordN n ∈ kws ++ l := by
      intro n h1 h2
      have hg : good l n = false := by
        cases e : good l n with
        | false => rfl
        | true => exact absurd ⟨n, h1, h2, e⟩ hno
      rw [good, name_word h1 (by omega)] at hg
      rw [List.mem_append]
      cases hk : kws.contains (wordN n) with
      | true => exact .inl (by simpa using hk)
      | false =>
        rw [hk] at hg
        exact .inr (by simpa using hg)
    have h2 := nodup_len ((List.range (l.length + 35)).map fun i => wordN (i + 1)) (kws ++ l) (by
      rw [List.nodup_iff_pairwise_ne, List.pairwise_map]
      refine List.Pairwise.imp ?_ (List.nodup_iff_pairwise_ne.1 List.nodup_range)
      intro a b hab e
      have := wordN_inj _ _ e
      omega) (by
      intro x hx
      simp only [List.mem_map, List.mem_range] at hx
      obtain ⟨i, hi, rfl⟩ := hx
      exact h (i + 1) (by omega) (by omega))
    have hk : kws.length = 34 := rfl
    simp only [List.length_map, List.length_range, List.length_append, hk] at h2
    omega
  obtain ⟨n, h1, h2, h3⟩ := key
  obtain ⟨m, a, b, c, d⟩ := least_of (p := good l) n h3 h1
  exact ⟨m, a, c, d, by omega⟩
end Go.Abs

/- TermNames: the law. -/
open Go Go.Abs
namespace Go.Abs
set_option maxRecDepth 100000
set_option maxHeartbeats 2000000
theorem O.callP {C : Cfg} {l : Env} {G : Nat → Obj} {nx : Nat} {df : List (AV × List AV)} {pk : Pk} {id : Nat} {f : FuncId} {ar : List Operand} {ats : Array TypeId} {vs : List AV} {ivs : List IV} {ids : List Nat} {x : IV} [hf : FnIs C f] (ha : looks l ar = some vs) (hi : peeks G vs = some (ivs, ids)) (hr : Ret C f ivs x) (hx : x.scalar = true) :
    OpV C id l G nx df pk (.call { callee := .value (.func f), args := ⟨ar⟩, argTypes := ats }) (.imm x) [] := by
  obtain ⟨n, v, G', nx', pk', ids, h1, h2⟩ := hr
  refine ⟨fun t ht => ⟨n, ?_⟩⟩
  simp only [opA, ev, aCall, fnOf, List.map_nil, List.append_nil, callA, hf.byref, Bool.false_eq_true, if_false, ht.evs ha, hi, hf.orc, h1, h2, hx, give, if_true]
end Go.Abs

/- Programs with other names: the names, and expressions. -/
open Go Go.Abs
namespace Go.Abs
set_option maxRecDepth 100000
set_option maxHeartbeats 4000000
instance fnis77 : FnIs CC 54 := ⟨rfl, fun _ => rfl⟩
instance fnis99 : FnIs CC 113 := ⟨rfl, fun _ => rfl⟩
instance fnis210 : FnIs CC 116 := ⟨rfl, fun _ => rfl⟩
open Classical in
/-- The first name that is none of some. -/
noncomputable def freshOf (l : List Str) : Str := if h : l.length ≤ 1048576 then wordN (Classical.choose (exists_first l h)) else []
theorem ret12f {l : List Str} (h : l.length ≤ 1048576) : Ret CC 53 [.lst (l.map sv)] (sv (freshOf l)) := by
  unfold freshOf
  rw [dif_pos h]
  exact ret12 l (by omega) _ (Classical.choose_spec (exists_first l h))
theorem ret13f {l : List Str} (h : l.length ≤ 1048576) : Ret CC 115 [.lst (l.map sv)] (sv (freshOf l)) := by
  unfold freshOf
  rw [dif_pos h]
  exact ret13 l (by omega) _ (Classical.choose_spec (exists_first l h))
noncomputable def canonL : Nat → List Str
  | 0 => []
  | n + 1 => canonL n ++ [freshOf (canonL n)]
theorem canonL_len : ∀ n, (canonL n).length = n
  | 0 => rfl
  | n + 1 => by rw [canonL, List.length_append, canonL_len n]; rfl
theorem canonL_take : ∀ {n i : Nat}, i ≤ n → (canonL n).take i = canonL i
  | 0, i, h => by obtain rfl : i = 0 := by omega
                  rfl
  | n + 1, i, h => by
    by_cases he : i = n + 1
    · subst he
      exact List.take_of_length_le (by rw [canonL_len]; omega)
    · rw [canonL, List.take_append_of_le_length (by rw [canonL_len]; omega), canonL_take (by omega)]
theorem canonL_at {n i : Nat} (h : i < n) : (canonL n)[i]? = some (freshOf (canonL i)) := by
  have h1 : (canonL (i + 1))[i]? = some (freshOf (canonL i)) := by
    rw [canonL, List.getElem?_append_right (by rw [canonL_len]; omega), canonL_len]; simp
  rw [← canonL_take (n := n) (i := i + 1) (by omega), List.getElem?_take] at h1
  simpa using h1
mutual
/-- An expression with other names. -/
def renE (to : Str → Str) : Exp → Exp
  | .mk op name n fold calcs kids => .mk op (to name) n fold calcs (renL to kids)
def renL (to : Str → Str) : List Exp → List Exp
  | [] => []
  | e :: r => renE to e :: renL to r
end
theorem renL_map (to : Str → Str) : ∀ l, renL to l = l.map (renE to)
  | [] => by rw [renL]; rfl
  | e :: r => by rw [renL, renL_map to r]; rfl
theorem peek_fn1 {G : Nat → Obj} {f : Fn} {q1 : Nat} {cs1 : List IV} {fr1 : Bool} (h1 : G q1 = .box (cs1.map .imm) fr1) :
    Go.Abs.peek G pkDepth (.fn f [.ptr q1 0]) = some (.fn f [.fptr cs1 0], [q1]) := by
  have hp : ∀ x, Go.Abs.peek G 98 (.imm x) = some (x, []) := fun x => rfl
  have hb : ∀ {q : Nat} {cs : List IV} {fr : Bool}, G q = .box (cs.map .imm) fr → Go.Abs.peek G 99 (.ptr q 0) = some (.fptr cs 0, [q]) := by
    intro q cs fr h
    show Go.Abs.peek G (98 + 1) _ = _
    unfold Go.Abs.peek
    rw [h]
    dsimp only
    rw [peekL_imm hp]
  show Go.Abs.peek G (99 + 1) _ = _
  unfold Go.Abs.peek
  rw [peekL, hb h1, peekL]
  rfl
theorem allEs_mem {kids : List Exp} {c x : Exp} (h : c ∈ kids) (hx : x ∈ allE c) : x ∈ allEs kids := by
  induction kids with
  | nil => cases h
  | cons k r ih =>
    rw [allEs, List.mem_append]
    rcases List.mem_cons.1 h with rfl | h
    · exact .inl hx
    · exact .inr (ih h)
def ToIs (ks vs : List IV) (to : Str → Str) (s : Str) : Prop := (s = [] → to s = []) ∧ (s ≠ [] → lookIs (some ty9) (some ty9) (some (ks, vs.map .imm)) (sv s) false (.imm (sv (to s))))
theorem ret99 {c : Exp} {ks vs : List IV} {to : Str → Str} (h : Ret CC 54 [c.iv, .fmp ks vs] (renE to c).iv) : Ret CC 113 [c.iv, .fptr [.fmp ks vs] 0] (renE to c).iv := by
  generalize renE to c = r at *
  obtain ⟨o'', s'', m'', f'', c'', k''⟩ := c
  obtain ⟨o3, s3, m3, f3, c3, k3⟩ := r
  refine Ret.of (fn := Go.Proofs.Tryz.f113) (by kernel_rfl) rfl rfl ?_
  refine AA ?_
  exact W.retFinCA rfl rfl rfl rfl ⟨[], rfl⟩
theorem ret77 {e : Exp} {ks vs : List IV} {to : Str → Str} (h : e.Sm) : (∀ x ∈ allE e, ToIs ks vs to x.name) → Ret CC 54 [e.iv, .fmp ks vs] (renE to e).iv := by
  induction h with
  | mk op name n fold calcs kids hc hk hcs hks ih =>
  intro hto
  rw [allE] at hto
  rw [renE, renL_map]
  have h92 := ret92 (g := renE to) (cap := [.fptr [.fmp ks vs] 0]) fnis99 kids hk fun c h => ret99 (ih c h fun x hx => hto x (List.mem_cons_of_mem _ (allEs_mem h hx)))
  have h90 := ret90 (g := id) (cap := []) fnis91 calcs hc fun c h => ret91 (hcs c h)
  rw [List.map_id] at h90
  have hn := hto _ (List.mem_cons_self ..)
  obtain ⟨hn1, hn2⟩ := hn
  simp only [Exp.name] at hn1 hn2
  generalize kids.map (renE to) = ks' at *
  generalize to name = nm at *
  refine Ret.of (fn := Go.Proofs.Tryz.f54) (by kernel_rfl) rfl rfl ?_
  rcases Bool.eq_false_or_eq_true (!(name == [])) with hA | hA
  · have hA' : name ≠ [] := by rintro rfl; simp at hA
    have hn := hn2 hA'
    refine AA ?_
    refine R.opU (O.callFz (ids := [1]) rfl (peeks2 (peek_fn1 (fr1 := false) (cs1 := [.fmp ks vs]) rfl)) h92 rfl) rfl ?_
    refine AA ?_
    exact W.retFinCA rfl rfl rfl rfl ⟨[], rfl⟩
  · have hA' : name = [] := by simpa using hA
    subst hA'
    have hn := hn1 rfl
    subst hn
    refine AA ?_
    refine R.opU (O.callFz (ids := [1]) rfl (peeks2 (peek_fn1 (fr1 := false) (cs1 := [.fmp ks vs]) rfl)) h92 rfl) rfl ?_
    refine AA ?_
    exact W.retFinCA rfl rfl rfl rfl ⟨[], rfl⟩
end Go.Abs

/- Expressions with other names, as the reference makes them. -/
open Go Go.Abs
namespace Go.Abs
set_option maxRecDepth 100000
set_option maxHeartbeats 4000000
theorem cal62_6 {e : Exp} (h : e.Sm) (G0 : Nat → Obj) : Cal CC 48 [.imm e.iv] G0 6 fun r G' nx' => 6 ≤ nx' ∧ (∀ o, o < 6 → G' o = G0 o) ∧ Copied 6 nx' G' e r := by
  cases h with
  | mk op name n fold calcs kids hlc hlk hcs hks =>
  have hlm := tivs_len calcs
  have hlm2 := ivs_len kids
  refine Cal.of (fn := Go.Proofs.Tryz.f48) (by kernel_rfl) rfl rfl ?_
  refine AA ?_
  refine W.loop (X := Nat × AV) (fun x => [(1, .ptr (6 + 0) 0), (2, .ptr (6 + 1) 0), (3, .ptr (6 + 11) 0), (4, .imm (.int .i64 x.1))])
    (fun x nx G => 6 + 14 ≤ nx ∧ x.1 ≤ calcs.length ∧ G (6 + 0) = .box [.imm (.int .i64 op), .imm (sv name), .imm (.int .i64 n), .imm (.int .i64 fold), .imm (.lst (Trm.ivs calcs)), .imm (.lst (Exp.ivs kids))] false ∧ G (6 + 1) = .box ty59.zero.cells false ∧
      G (6 + 11) = .box [.imm (.int .i64 op), .imm (sv name), .imm (.int .i64 n), .imm (.int .i64 fold), x.2, .nils] false ∧ Own 172 3 (6 + 14) nx (Trm.ivs (calcs.take x.1)) G x.2 ∧ ∀ o, o < 6 → G o = G0 o)
    (fun x => calcs.length - x.1) (0, .nils) .auto ⟨by omega, Nat.zero_le _, rfl, rfl, rfl, .nil .., fun o h => at_upd⟩ ?_
  rintro ⟨i, v⟩ nx G ⟨hnx, hi, h0, h1, h7, ho, hfr⟩
  obtain ⟨nx, rfl⟩ : ∃ m, nx = m + (6 + 14) := ⟨nx - (6 + 14), by omega⟩
  dsimp only at hi h7 ho ⊢
  rcases Bool.eq_false_or_eq_true (decide ((i : Int) < ((Trm.ivs calcs).length : Int))) with hc | hc
  · have hlt : i < calcs.length := by have := of_decide_eq_true hc; omega
    obtain ⟨d, hx⟩ := at_lt hlt
    have hxi := tivs_at hx
    have hdc := d.cells_len
    have hmu : calcs.length - (i + 1) < calcs.length - i := by omega
    have hr := ret95 (hcs d (List.mem_of_getElem? hx))
    have htk := tivs_take hx
    have hlen : (Trm.ivs (calcs.take i)).length ≤ 1048576 := by rw [tivs_len, List.length_take]; omega
    obtain ⟨o', m', k'⟩ := d
    refine AA ?_
    refine D.app1 ho at_upd (by simp only [most]; omega) fun v' G' rd o' ho' hG' hlo => ?_
    rw [← htk] at ho'
    have hv1 := ho'.cells1
    have hv2 := ho'.one1
    have g0 := (hG' (6 + 0) (by omega)).trans (Eq.trans at_upd h0)
    have g1 := (hG' (6 + 1) (by omega)).trans (Eq.trans at_upd h1)
    have g7 := (hG' (6 + 11) (by omega)).trans (Eq.trans at_upd h7)
    refine AD ?_
    refine D.skip (by kernel_rfl) ?_
    refine AA ?_
    exact W.skipLop (i + 1, v') hmu .auto ⟨by omega, hlt, at_upd, at_upd, at_upd, ho'.fr, fun o h => Eq.trans at_upd ((hG' o (by omega)).trans (Eq.trans at_upd (hfr o h)))⟩
  have hge : calcs.length ≤ i := by have := of_decide_eq_false hc; omega
  rw [List.take_of_length_le hge] at ho
  refine AA ?_
  refine W.loop (X := Nat × AV) (fun x => [(1, .ptr (6 + 0) 0), (2, .ptr (6 + 1) 0), (3, .ptr (6 + 11) 0), (5, .imm (.int .i64 x.1))])
    (fun x nx2 G => nx + (6 + 14) ≤ nx2 ∧ x.1 ≤ kids.length ∧ G (6 + 0) = .box [.imm (.int .i64 op), .imm (sv name), .imm (.int .i64 n), .imm (.int .i64 fold), .imm (.lst (Trm.ivs calcs)), .imm (.lst (Exp.ivs kids))] false ∧ G (6 + 1) = .box ty59.zero.cells false ∧
      G (6 + 11) = .box [.imm (.int .i64 op), .imm (sv name), .imm (.int .i64 n), .imm (.int .i64 fold), v, x.2] false ∧ Own 172 3 (6 + 14) (nx + (6 + 14)) (Trm.ivs calcs) G v ∧ Own 93 6 (nx + (6 + 14)) nx2 (Exp.ivs (kids.take x.1)) G x.2 ∧ ∀ o, o < 6 → G o = G0 o)
    (fun x => kids.length - x.1) (0, .nils) .auto ⟨by omega, Nat.zero_le _, h0, h1, h7, ho, .nil .., hfr⟩ ?_
  clear h0 h1 h7 ho hc hge hi hfr i G
  rintro ⟨i, w⟩ nx2 G ⟨hnx2, hi, h0, h1, h7, hov, ho, hfr⟩
  obtain ⟨nx2, rfl⟩ : ∃ m, nx2 = m + (6 + 14) := ⟨nx2 - (6 + 14), by omega⟩
  dsimp only at hi h7 ho ⊢
  rcases Bool.eq_false_or_eq_true (decide ((i : Int) < ((Exp.ivs kids).length : Int))) with hc | hc
  · have hlt : i < kids.length := by have := of_decide_eq_true hc; omega
    obtain ⟨d, hx⟩ := at_lt hlt
    have hxi := ivs_at hx
    have hdc := d.cells_len
    have hmu : kids.length - (i + 1) < kids.length - i := by omega
    have hr := ret62 (hks d (List.mem_of_getElem? hx))
    have htk := ivs_take hx
    have hlen : (Exp.ivs (kids.take i)).length ≤ 1048576 := by rw [ivs_len, List.length_take]; omega
    obtain ⟨o', s', m', f', c', k'⟩ := d
    refine AA ?_
    refine D.app1 ho at_upd (by simp only [most]; omega) fun w' G' rd o' ho' hG' hlo => ?_
    rw [← htk] at ho'
    have hv1 := ho'.cells1
    have hv2 := ho'.one1
    have g0 := (hG' (6 + 0) (by omega)).trans (Eq.trans at_upd h0)
    have g1 := (hG' (6 + 1) (by omega)).trans (Eq.trans at_upd h1)
    have g7 := (hG' (6 + 11) (by omega)).trans (Eq.trans at_upd h7)
    have gv : Own 172 3 (6 + 14) (nx + (6 + 14)) (Trm.ivs calcs) G' v := hov.fr (hh := Nat.le_refl _) (hG := fun o h h' => (hG' o (by omega)).trans at_upd)
    refine AD ?_
    refine D.skip (by kernel_rfl) ?_
    refine AA ?_
    exact W.skipLop (i + 1, w') hmu .auto ⟨by omega, hlt, at_upd, at_upd, at_upd, gv.fr, ho'.fr, fun o h => Eq.trans at_upd ((hG' o (by omega)).trans (Eq.trans at_upd (hfr o h)))⟩
  · have hge : kids.length ≤ i := by have := of_decide_eq_false hc; omega
    rw [List.take_of_length_le hge] at ho
    have hq := ho
    have hqv := hov
    rcases ho with ⟨_, rfl⟩ | ⟨o, _, _, rfl, _⟩ <;> rcases hov with ⟨_, rfl⟩ | ⟨o2, _, _, rfl, _⟩
    all_goals
      refine AA ?_
      refine W.retFinCA rfl at_upd rfl rfl ⟨by omega, fun o h => Eq.trans at_upd (hfr o h), _, _, rfl, ?_, ?_⟩
      · exact Own.mono (hqv.frame (Nat.le_refl _) fun o h h' => at_upd) (by omega) (by omega)
      · exact Own.mono (hq.frame (Nat.le_refl _) fun o h h' => at_upd) (by omega) (by omega)
noncomputable abbrev CQ : Cfg := CC.at 116
instance fnisQ210 : FnIs CQ 116 := ⟨rfl, fun _ => rfl⟩
instance fnisQ69 : FnIs CQ 154 := ⟨rfl, fun _ => rfl⟩
instance tyisQ {t : TypeId} {k : TyI} [h : TyIs CC t k] : TyIs CQ t k := ⟨h.is⟩
def mapI {α : Type} (f : α → α) (l : List α) (i : Nat) : List α := (l.take i).map f ++ l.drop i
theorem mapI_len {α : Type} (f : α → α) (l : List α) (i : Nat) : (mapI f l i).length = l.length := by
  unfold mapI; simp; omega
theorem mapI_zero {α : Type} (f : α → α) (l : List α) : mapI f l 0 = l := by unfold mapI; simp
theorem mapI_all {α : Type} {f : α → α} {l : List α} {i : Nat} (h : l.length ≤ i) : mapI f l i = l.map f := by
  unfold mapI; rw [List.take_of_length_le h, List.drop_eq_nil_of_le h, List.append_nil]
theorem mapI_at {α : Type} {f : α → α} {l : List α} {i : Nat} {x : α} (h : l[i]? = some x) : (mapI f l i)[i]? = some x := by
  obtain ⟨h1, h2⟩ := List.getElem?_eq_some_iff.1 h
  unfold mapI
  rw [List.drop_eq_getElem_cons h1, h2]
  exact mid_at (by simp; omega)
theorem mapI_set {α : Type} {f : α → α} {l : List α} {i : Nat} {x : α} (h : l[i]? = some x) : (mapI f l i).set i (f x) = mapI f l (i + 1) := by
  obtain ⟨h1, h2⟩ := List.getElem?_eq_some_iff.1 h
  have hl : ((l.take i).map f).length = i := by simp; omega
  unfold mapI
  rw [List.drop_eq_getElem_cons h1, h2, mid_set hl, List.take_add_one, h]
  simp
def toR (old now : List Str) (s : Str) : Str := if old.contains s then now.getD (idxN old s) [] else s
theorem ret210 {e : Exp} {old now : List Str} (h : e.Sm) (hl : old.length ≤ 1048576) (hn : now.length = old.length) : Ret CC 116 [e.iv, .lst (old.map sv), .lst (now.map sv)] (renE (toR old now) e).iv := by
  induction h with
  | mk op name n fold calcs kids hc hk hcs hks ih =>
  rw [renE, renL_map]
  refine Ret.base (g := 116) ?_
  have ih := fun c h => (ih c h).at (g := 116)
  have hsm : (Exp.mk op name n fold calcs kids).Sm := .mk _ _ _ _ _ _ hc hk hcs hks
  have h69 := (ret69 old name (by omega)).at (g := 116)
  have hge := idxFrom_nonneg name old 0
  refine Ret.of (C := CQ) (fn := Go.Proofs.Tryz.f116) (by kernel_rfl) rfl rfl ?_
  refine AA ?_
  refine R.callB rfl rfl rfl rfl rfl ((cal62_6 hsm _).at.mono fun v G' nx' ⟨h1, h2, h3⟩ => ?_)
  obtain ⟨va, vb, rfl, hft, hva, hvb⟩ := copied_agg h3
  have g0 : G' 0 = .box [.imm (.int .i64 op), .imm (sv name), .imm (.int .i64 n), .imm (.int .i64 fold), .imm (.lst (Trm.ivs calcs)), .imm (.lst (Exp.ivs kids))] false := h2 0 (by omega)
  have g1 : G' 1 = .box ty59.zero.cells false := h2 1 (by omega)
  have ha1 := hva.cells1
  have ha2 := hva.one1
  have hb1 := hvb.cells1
  have hb2 := hvb.one1
  refine AA ?_
  refine R.opN1 (O.storeP rfl rfl hft at_upd rfl rfl) ?_
  refine AA ?_
  refine W.unseq (W.cut (X := Unit) (fun _ => [(1, .imm (.lst (old.map sv))), (2, .imm (.lst (now.map sv))), (3, .ptr 0 0), (6, .ptr 1 0), (7, .ptr 4 0)])
    (fun _ nx G => nx' ≤ nx ∧ G 0 = .box [.imm (.int .i64 op), .imm (sv name), .imm (.int .i64 n), .imm (.int .i64 fold), .imm (.lst (Trm.ivs calcs)), .imm (.lst (Exp.ivs kids))] false ∧ G 1 = .box ty59.zero.cells false ∧
      G 4 = .box [.imm (.int .i64 op), .imm (sv (toR old now name)), .imm (.int .i64 n), .imm (.int .i64 fold), va, vb] false ∧ Own 172 3 6 nx' (Trm.ivs calcs) G va ∧ Own 93 6 6 nx' (Exp.ivs kids) G vb) ?_ ?_)
  · cases hcn : old.contains name with
    | true =>
      rw [hcn] at hge
      have hi := idxFrom_idxN (k := 0) (List.contains_iff_mem.1 hcn)
      rw [Nat.zero_add] at hi
      have hlt := idxN_lt (List.contains_iff_mem.1 hcn)
      obtain ⟨s, hs⟩ := at_lt (l := now) (i := idxN old name) (by omega)
      have hsi := at_map sv hs
      have hto : toR old now name = s := by
        unfold toR; rw [hcn, if_pos rfl, List.getD_eq_getElem?_getD, hs]; rfl
      rw [hto]
      rw [hi] at h69 hge ⊢
      refine AA ?_
      exact W.skipCut () .auto ⟨by omega, Eq.trans at_upd (Eq.trans at_upd g0), Eq.trans at_upd (Eq.trans at_upd g1), at_upd, hva.fr, hvb.fr⟩
    | false =>
      rw [hcn] at hge
      have hto : toR old now name = name := by unfold toR; rw [hcn, if_neg (by decide)]
      rw [hto]
      refine AA ?_
      exact W.skipCut () .auto ⟨by omega, Eq.trans at_upd g0, Eq.trans at_upd g1, at_upd, hva.fr, hvb.fr⟩
  clear g0 g1 h2 hva hvb hge h69 h3
  rintro _ nx G ⟨hnx, g0, g1, g4, hva, hvb⟩
  generalize toR old now name = nm at *
  generalize renE (toR old now) = f at *
  refine AA ?_
  refine W.loop (X := Nat) (fun i => [(1, .imm (.lst (old.map sv))), (2, .imm (.lst (now.map sv))), (3, .ptr 0 0), (6, .ptr 1 0), (7, .ptr 4 0), (9, .imm (.int .i64 i))])
    (fun i nx G => nx' ≤ nx ∧ i ≤ kids.length ∧ G 0 = .box [.imm (.int .i64 op), .imm (sv name), .imm (.int .i64 n), .imm (.int .i64 fold), .imm (.lst (Trm.ivs calcs)), .imm (.lst (Exp.ivs kids))] false ∧ G 1 = .box ty59.zero.cells false ∧
      G 4 = .box [.imm (.int .i64 op), .imm (sv nm), .imm (.int .i64 n), .imm (.int .i64 fold), va, vb] false ∧ Own 172 3 6 nx' (Trm.ivs calcs) G va ∧ Own 93 6 6 nx' (Exp.ivs (mapI f kids i)) G vb)
    (fun i => kids.length - i) 0 .auto ⟨by omega, Nat.zero_le _, g0, g1, g4, hva, by rw [mapI_zero]; exact hvb⟩ ?_
  clear g0 g1 g4 hva hvb hnx nx G
  rintro i nx G2 ⟨hnx, hi, g0, g1, g4, hva, hvb⟩
  have hl : (Exp.ivs (mapI f kids i)).length = kids.length := by rw [ivs_len, mapI_len]
  rcases Bool.eq_false_or_eq_true (decide ((i : Int) < ((Exp.ivs (mapI f kids i)).length : Int))) with hcc | hcc
  · have hlt : i < kids.length := by have := of_decide_eq_true hcc; omega
    obtain ⟨x, hx⟩ := at_lt hlt
    have hxk := ivs_at hx
    have hxi := mapI_at (f := f) hx
    have hset := mapI_set (f := f) hx
    have hr := ih x (List.mem_of_getElem? hx)
    have hmu : kids.length - (i + 1) < kids.length - i := by omega
    rcases hvb with ⟨hnil, _⟩ | ⟨o, ho1, ho2, rfl, hGo⟩
    · rw [hnil] at hl; simp at hl; omega
    generalize hM : mapI f kids i = M at *
    generalize hM2 : mapI f kids (i + 1) = M2 at *
    have hlm : ((Exp.ivs M).map AV.imm).length = (Exp.ivs M).length := List.length_map ..
    generalize f x = y at *
    have hdc := x.cells_len
    obtain ⟨ox, sx, nx0, fx, cx, kx⟩ := x
    obtain ⟨oy, sy, ny, fy, cy, ky⟩ := y
    have hxi' : ((Exp.ivs M).map AV.imm)[((i : Nat) : Int).toNat]? = some (.imm (Exp.mk ox sx nx0 fx cx kx).iv) := by rw [Int.toNat_natCast, List.getElem?_map, Exp.ivs_map, List.getElem?_map, hxi]; rfl
    refine AA ?_
    refine R.op0 (O.lenR rfl rfl hGo hlm) rfl ?_
    refine AA ?_
    refine D.opN1 (O.storeRS (by decide) rfl rfl rfl hGo hlm hxi' rfl rfl) rfl ?_
    refine AD ?_
    refine D.skip4 4 0 o (nx' + 14) (by omega) [⟨0, [], [], []⟩, ⟨1, [1], [], []⟩, ⟨2, [], [], []⟩, ⟨3, [], [], []⟩, ⟨4, [2], [], []⟩, ⟨5, [], [], []⟩, ⟨6, [], [], []⟩, ⟨7, [], [], []⟩, ⟨8, [], [], []⟩, ⟨9, [], [], []⟩, ⟨10, [], [], []⟩, ⟨11, [3], [], []⟩, ⟨12, [3], [3], []⟩] rfl rfl rfl (by kernel_rfl) ?_
    refine AA ?_
    refine W.skipLop (i + 1) hmu .auto ⟨by omega, hlt, Eq.trans at_upd g0, Eq.trans at_upd g1, Eq.trans at_upd g4, hva.updNe hGo (by decide), .inr ⟨o, ho1, ho2, ?_, ?_⟩⟩
    · rw [ivs_len, ivs_len, hM2, ← hset, List.length_set]
    · rw [upd_same, hM2, ← hset, Exp.ivs_map, Exp.ivs_map, List.map_set, List.map_set, Int.toNat_natCast]
      rfl
  · have hge : kids.length ≤ i := by have := of_decide_eq_false hcc; omega
    rw [mapI_all hge] at hvb hcc
    have hmk : mkAgg [.imm (.int .i64 op), .imm (sv nm), .imm (.int .i64 n), .imm (.int .i64 fold), va, vb] = .agg [.imm (.int .i64 op), .imm (sv nm), .imm (.int .i64 n), .imm (.int .i64 fold), va, vb] := mkAgg_not ⟨vb, by simp, hvb.notImm⟩
    refine AA ?_
    refine R.opN1 (O.storeP rfl (congrArg some hmk) hft g1 rfl rfl) ?_
    refine AA ?_
    refine W.retFinCA (cs := [.imm (.int .i64 op), .imm (sv nm), .imm (.int .i64 n), .imm (.int .i64 fold), va, vb]) rfl at_upd rfl rfl ?_
    rw [mkAgg_not ⟨vb, by simp, hvb.notImm⟩]
    refine Rdx.peek (d := 2) (P := fun i => 6 ≤ i ∧ i < nx') (Rdx.agg (d := 1) (.cons (.imm ..) (.cons (.imm ..) (.cons (.imm ..) (.cons (.imm ..) (.cons (hva.rdx.frame ?_ fun _ h => h) (.cons (hvb.rdx.frame ?_ fun _ h => h) .nil))))))) (by decide)
    · exact fun o h => at_upd
    · exact fun o h => at_upd
end Go.Abs

/- What each node of a formed program is like. -/
open Go Go.Abs
namespace Go.Abs
set_option maxRecDepth 100000
def NodeIs (srcs defs : List Str) (ahead : Nat) (x : Exp) : Prop := ∃ s, shapeR x.op = some s ∧ headIs srcs defs ahead s x.op x.name x.n x.fold x.calcs.length x.kids.length = true
mutual
theorem expR_head (srcs defs : List Str) (ahead : Nat) : ∀ (e : Exp) (depth left : Int), 0 ≤ expR srcs defs ahead e depth left → ∀ x ∈ allE e, NodeIs srcs defs ahead x
  | .mk op name n fold calcs kids, depth, left, h, x, hx => by
    rw [expR] at h
    rw [allE] at hx
    cases hs : shapeR op with
    | none => rw [hs] at h; simp at h
    | some s =>
      rw [hs] at h
      dsimp only at h
      split at h
      · omega
      · split at h
        · rename_i hh
          split at h
          · omega
          · rcases List.mem_cons.1 hx with he | hx
            · rw [he]
              exact ⟨s, hs, hh⟩
            · exact expRs_head srcs defs ahead kids depth left _ h x hx
        · omega
theorem expRs_head (srcs defs : List Str) (ahead : Nat) : ∀ (l : List Exp) (depth left n : Int), 0 ≤ expRs srcs defs ahead l depth left n → ∀ x ∈ allEs l, NodeIs srcs defs ahead x
  | [], _, _, _, _, x, hx => by cases hx
  | k :: r, depth, left, n, h, x, hx => by
    rw [expRs] at h
    rw [allEs] at hx
    split at h
    · omega
    · rcases List.mem_append.1 hx with hx | hx
      · exact expR_head srcs defs ahead k (depth + 1) (left - n) (by omega) x hx
      · exact expRs_head srcs defs ahead r depth left _ h x hx
end
theorem countL_head (srcs names : List Str) : ∀ (ds : List Dfn) (i : Nat) (n : Int), 0 ≤ countL srcs names ds i n → ∀ j d, ds[j]? = some d → ∀ x ∈ allE d.exp, NodeIs srcs names (i + j) x
  | [], _, _, _, j, d, hd => by simp at hd
  | k :: r, i, n, h, j, d, hd => by
    rw [countL] at h
    split at h
    · omega
    · cases j with
      | zero =>
        simp at hd
        subst hd
        exact expR_head srcs names i k.exp 1 (60 - n) (by omega)
      | succ j =>
        have := countL_head srcs names r (i + 1) _ h j d (by simpa using hd)
        rwa [show i + 1 + j = i + (j + 1) by omega] at this
theorem countR_parts {p : Pgm} (h : 0 ≤ countR p) : (1 ≤ p.srcs.length ∧ p.srcs.length ≤ 4 ∧ p.defs.length ≤ 6) ∧ diff (p.srcs ++ defNames p) = true ∧ defNames p = p.defs.map Dfn.name ∧ ∀ i d, p.defs[i]? = some d → ∀ x ∈ allE d.exp, NodeIs p.srcs (defNames p) i x := by
  unfold countR at h
  split at h
  · omega
  · rename_i h0
    split at h
    · rename_i h1
      refine ⟨by omega, h1, ?_, fun i d hd => ?_⟩
      · unfold defNames
        rw [List.take_of_length_le (by omega)]
      · have := countL_head p.srcs (defNames p) p.defs 0 0 h i d hd
        rwa [Nat.zero_add] at this
    · omega
theorem nameOk_ne {s : Str} (h : nameOk s = true) : s ≠ [] := by
  rintro rfl
  simp [nameOk] at h
theorem diff_get {l : List Str} (h : diff l = true) {i : Nat} {s : Str} (hi : l[i]? = some s) : nameOk s = true ∧ s ∉ l.take i := by
  unfold diff at h
  have hlt := (List.getElem?_eq_some_iff.1 hi).1
  have := List.all_eq_true.1 h i (List.mem_range.2 hlt)
  rw [show l.getD i [] = s from by rw [List.getD_eq_getElem?_getD, hi]; rfl] at this
  simp only [Bool.and_eq_true, Bool.not_eq_true'] at this
  exact ⟨this.1, by simpa using this.2⟩
theorem diff_nodup {l : List Str} (h : diff l = true) : l.Nodup := by
  refine List.pairwise_iff_getElem.2 fun i j hi hj hij he => ?_
  have hs : l[j]? = some l[j] := List.getElem?_eq_getElem hj
  have := (diff_get h hs).2
  exact this (List.mem_iff_getElem?.2 ⟨i, by rw [List.getElem?_take]; simp [hij, he, hi]⟩)
theorem diff_mem {l : List Str} (h : diff l = true) {s : Str} (hs : s ∈ l) : nameOk s = true := by
  obtain ⟨i, hi⟩ := List.mem_iff_getElem?.1 hs
  exact (diff_get h hi).1
theorem idxN_at {l : List Str} (hn : l.Nodup) {i : Nat} {s : Str} (hi : l[i]? = some s) : idxN l s = i := by
  have hs : s ∈ l := List.mem_iff_getElem?.2 ⟨i, hi⟩
  have hlt := (List.getElem?_eq_some_iff.1 hi).1
  unfold idxN
  cases hf : l.findIdx? (fun x => s == x) with
  | none =>
    rw [List.findIdx?_eq_none_iff] at hf
    have := hf s hs
    simp at this
  | some j =>
    have h1 := List.findIdx?_eq_some_iff_getElem.1 hf
    obtain ⟨h2, h3, _⟩ := h1
    have h3 : s = l[j] := by simpa using h3
    have h4 : l[j]? = some s := by rw [List.getElem?_eq_getElem h2, ← h3]
    by_cases hij : j = i
    · exact hij
    · exfalso
      have hi' : l[i] = s := (List.getElem?_eq_some_iff.1 hi).2
      rcases Nat.lt_or_gt_of_ne hij with h | h
      · exact List.pairwise_iff_getElem.1 hn j i h2 hlt h (by rw [← h3, hi'])
      · exact List.pairwise_iff_getElem.1 hn i j hlt h2 h (by rw [← h3, hi'])
theorem NodeIs.named {srcs defs : List Str} {ahead : Nat} {x : Exp} (h : NodeIs srcs defs ahead x) : x.name = [] ∨ x.name ∈ srcs ++ defs := by
  obtain ⟨s, h1, h2⟩ := h
  unfold headIs at h2
  simp only [Bool.and_eq_true] at h2
  obtain ⟨⟨⟨⟨⟨_, _⟩, h5⟩, _⟩, _⟩, h8⟩ := h2
  by_cases hn : x.name = []
  · exact .inl hn
  · right
    have h5 : s.name = true := by
      have : (x.name == []) = false := by simpa using hn
      rw [this] at h5
      simpa using h5
    have hop : x.op = 1 ∨ x.op = 2 ∨ x.op = 3 := by
      rcases ops15 x.op with h | h | h | h | h | h | h | h | h | h | h | h | h | h | h | h
      case inl => exact .inl h
      case inr.inl => exact .inr (.inl h)
      case inr.inr.inl => exact .inr (.inr h)
      all_goals
        exfalso
        simp [shapeR, h] at h1
      all_goals
        subst h1
        simp at h5
    unfold nameIs at h8
    rcases hop with h | h | h
    · rw [h] at h8
      exact List.mem_append_left _ (by simpa using h8)
    · rw [h] at h8
      have h8 : ((defs.take ahead).contains x.name) = true := h8
      exact List.mem_append_right _ (List.mem_of_mem_take (by simpa using h8))
    · rw [h] at h8
      have h8 : (defs.contains x.name) = true := h8
      exact List.mem_append_right _ (by simpa using h8)
end Go.Abs

/- Programs with other names, as the reference makes them. -/
open Go Go.Abs
namespace Go.Abs
set_option maxRecDepth 100000
set_option maxHeartbeats 4000000
instance fnis209 : FnIs CC 55 := ⟨rfl, fun _ => rfl⟩
instance fnis208 : FnIs CC 15 := ⟨rfl, fun _ => rfl⟩
def oldN (p : Pgm) : List Str := p.srcs ++ p.defs.map Dfn.name
def renD (to : Str → Str) (d : Dfn) : Dfn := ⟨to d.name, renE to d.exp⟩
noncomputable def toC (p : Pgm) : Str → Str := toR (oldN p) (canonL (oldN p).length)
noncomputable def canonP (p : Pgm) : Pgm := ⟨canonL p.srcs.length, p.defs.map (renD (toC p))⟩
theorem oldN_len (p : Pgm) : (oldN p).length = p.srcs.length + p.defs.length := by unfold oldN; simp
theorem toC_at {p : Pgm} (hn : (oldN p).Nodup) {i : Nat} {s : Str} (hi : (oldN p)[i]? = some s) : toC p s = freshOf (canonL i) := by
  have hlt := (List.getElem?_eq_some_iff.1 hi).1
  unfold toC toR
  rw [if_pos (by simpa using List.mem_iff_getElem?.2 ⟨i, hi⟩), idxN_at hn hi, List.getD_eq_getElem?_getD, canonL_at hlt]
  rfl
theorem toC_def {p : Pgm} (hn : (oldN p).Nodup) {i : Nat} {d : Dfn} (hi : p.defs[i]? = some d) : (canonL (oldN p).length)[p.srcs.length + i]? = some (toC p d.name) := by
  have hlt := (List.getElem?_eq_some_iff.1 hi).1
  have h1 : (oldN p)[p.srcs.length + i]? = some d.name := by
    unfold oldN
    rw [List.getElem?_append_right (by omega), Nat.add_sub_cancel_left, List.getElem?_map, hi]; rfl
  rw [toC_at hn h1, canonL_at (by rw [oldN_len]; omega)]
theorem ret209 {p : Pgm} (hn : (oldN p).Nodup) (hs : 1 ≤ p.srcs.length ∧ p.srcs.length ≤ 4) (hd : p.defs.length ≤ 6) (hsm : ∀ d ∈ p.defs, d.exp.Sm) : Ret CC 55 [p.iv] (canonP p).iv := by
  have h96 := ret96 p (by omega)
  have hdn : defNames p = p.defs.map Dfn.name := by unfold defNames; rw [List.take_of_length_le (by omega)]
  rw [hdn] at h96
  have hol : (oldN p).length = p.srcs.length + p.defs.length := oldN_len p
  have hdef := fun i d h => toC_def hn (i := i) (d := d) h
  have hren := fun d h => ret210 (e := d) (old := oldN p) (now := canonL (oldN p).length) h (by omega) (canonL_len _)
  have htk : (canonL (oldN p).length).take p.srcs.length = canonL p.srcs.length := canonL_take (by omega)
  unfold canonP
  have e1 : toR (oldN p) (canonL (oldN p).length) = toC p := rfl
  rw [e1] at hren
  generalize hto : toC p = to at *
  have hON : oldN p = p.srcs ++ p.defs.map Dfn.name := rfl
  generalize hold : oldN p = old at *
  obtain ⟨srcs, defs⟩ := p
  simp only at *
  refine Ret.of (fn := Go.Proofs.Tryz.f55) (by kernel_rfl) rfl rfl ?_
  refine BB ?_
  have hfs : ∀ l : List Str, ((l.map sv).map AV.imm).all (AV.fits 1) = true := fun l => fits_all (fun y hy => by obtain ⟨z, _, rfl⟩ := List.mem_map.1 hy; rfl)
  refine D.op1 (O.appNil rfl rfl rfl rfl (ys := (srcs.map sv).map AV.imm) rfl (by decide) (by decide) rfl (hfs srcs) (by simp only [List.length_map, most]; omega)) rfl rfl ?_
  refine BD ?_
  refine D.op1 (O.appRow (xs := (srcs.map sv).map AV.imm) (ys := ((defs.map Dfn.name).map sv).map AV.imm) rfl rfl rfl at_upd rfl rfl rfl (by decide) (by decide) rfl (hfs _) (by simp only [List.length_map, most]; omega)) rfl rfl ?_
  refine BB ?_
  have hrow : (srcs.map sv).map AV.imm ++ ((defs.map Dfn.name).map sv).map AV.imm = (old.map sv).map AV.imm := by rw [hON, List.map_append, List.map_append]
  rw [hrow]
  have hlo : ((old.map sv).map AV.imm).length = old.length := by simp
  rw [hlo]
  refine W.loop (X := Nat × AV) (fun x => [(1, .ptr 0 0), (2, .ptr 1 0), (3, .row 4 old.length), (4, x.2), (5, .imm (.int .i64 x.1))])
    (fun x nx G => 11 ≤ nx ∧ G 0 = .box [.imm (.lst (srcs.map sv)), .imm (.lst (defs.map Dfn.iv))] false ∧ G 1 = .box ty29.zero.cells false ∧ G 4 = .row 9 1 ((old.map sv).map AV.imm) false ∧ x.1 ≤ old.length ∧ Own 9 1 11 nx ((canonL x.1).map sv) G x.2)
    (fun x => old.length - x.1) (0, .nils) .auto ⟨by omega, rfl, rfl, rfl, Nat.zero_le _, .nil ..⟩ ?_
  rintro ⟨i, w⟩ nx G ⟨hnx, g0, g1, g4, hi, ho⟩
  dsimp only at hi ho ⊢
  rcases Bool.eq_false_or_eq_true (decide ((i : Int) < (old.length : Int))) with hcc | hcc
  · have hlt : i < old.length := by have := of_decide_eq_true hcc; omega
    have hmu : old.length - (i + 1) < old.length - i := by omega
    have hr := ret13f (l := canonL i) (by rw [canonL_len]; omega)
    obtain ⟨ids, hids⟩ := ho.peek (k := 99)
    have hcl : ((canonL i).map sv).length ≤ 100 := by rw [List.length_map, canonL_len]; omega
    have hcs : (canonL (i + 1)).map sv = (canonL i).map sv ++ [sv (freshOf (canonL i))] := by rw [canonL, List.map_append]; rfl
    refine BB ?_
    refine R.op0 (O.callP rfl (peeks_one hids peeks_nil) hr rfl) rfl ?_
    refine BB ?_
    refine R.app1 ho at_upd (by simp only [most]; omega) fun v' G' ho' hG' => ?_
    rw [← hcs] at ho'
    refine BB ?_
    exact W.skipLop (i + 1, v') hmu .auto ⟨by omega, (hG' 0 (by omega)).trans (Eq.trans at_upd g0), (hG' 1 (by omega)).trans (Eq.trans at_upd g1), (hG' 4 (by omega)).trans (Eq.trans at_upd g4), hlt, ho'.fr⟩
  have hge : old.length ≤ i := by have := of_decide_eq_false hcc; omega
  obtain rfl : i = old.length := by omega
  rcases ho with ⟨hnil, _⟩ | ⟨o, ho1, ho2, rfl, hGo⟩
  · have := congrArg List.length hnil
    rw [List.length_map, canonL_len, List.length_nil] at this
    omega
  have hnl : (canonL old.length).length = old.length := canonL_len _
  have htk2 : (((canonL old.length).map sv).take srcs.length).drop 0 = (canonL srcs.length).map sv := by rw [List.drop_zero, ← List.map_take, htk]
  have hcl : (((canonL old.length).map sv).all fun y => y.cells.length == 1) = true := by
    rw [List.all_eq_true]
    intro y hy
    obtain ⟨z, _, rfl⟩ := List.mem_map.1 hy
    rfl
  generalize hnow : canonL old.length = now at *
  have hsl : (srcs.map sv).length = srcs.length := List.length_map ..
  refine BB ?_
  refine R.opU (O.sliceG rfl rfl (peek_row1 hGo rfl) (n := srcs.length) (m := 0) (boundE_at rfl (by rw [hsl]) (by rw [List.length_map]; omega)) rfl hcl) rfl ?_
  rw [htk2]
  refine R.gen' (fun G => G 0 = .box [.imm (.lst (srcs.map sv)), .imm (.lst (defs.map Dfn.iv))] false ∧ G 1 = .box ty29.zero.cells false ∧ G 4 = .row 9 1 ((old.map sv).map AV.imm) false ∧ G o = .row 9 1 ((now.map sv).map .imm) true) ⟨by rw [frz_at, if_neg (by omega)]; exact g0, by rw [frz_at, if_neg (by omega)]; exact g1, by rw [frz_at, if_neg (by omega)]; exact g4, by rw [frz_at, if_pos rfl, hGo]; rfl⟩ ?_
  clear g0 g1 g4 hGo
  rintro G ⟨g0, g1, g4, gO⟩
  have hcl2 : ((canonL srcs.length).map sv).length = srcs.length := by rw [List.length_map, canonL_len]
  refine R.op1 (O.appNil rfl rfl rfl rfl (ys := ((canonL srcs.length).map sv).map AV.imm) rfl (by decide) (by decide) rfl (hfs _) (by rw [List.length_map, hcl2]; unfold most; omega)) rfl ?_
  refine BB ?_
  rw [List.length_map, hcl2]
  refine W.loop (X := Nat × AV) (fun x => [(1, .ptr 0 0), (2, .ptr 1 0), (3, .row 4 old.length), (4, .row o (now.map sv).length), (6, .ptr (nx + 4 + 7) 0), (7, .imm (.int .i64 x.1))])
    (fun x nx2 G2 => nx + 14 ≤ nx2 ∧ G2 0 = .box [.imm (.lst (srcs.map sv)), .imm (.lst (defs.map Dfn.iv))] false ∧ G2 1 = .box ty29.zero.cells false ∧ (∃ fr, G2 4 = .row 9 1 ((old.map sv).map AV.imm) fr) ∧ (∃ fr, G2 o = .row 9 1 ((now.map sv).map .imm) fr) ∧
      G2 (nx + 4 + 5) = .row 9 1 (((canonL srcs.length).map sv).map .imm) false ∧ G2 (nx + 4 + 7) = .box [.row (nx + 4 + 5) srcs.length, x.2] false ∧ x.1 ≤ defs.length ∧ Own 95 7 (nx + 14) nx2 (((defs.take x.1).map (renD to)).map Dfn.iv) G2 x.2)
    (fun x => defs.length - x.1) (0, .nils) .auto ⟨by omega, Eq.trans at_upd g0, Eq.trans at_upd g1, ⟨_, Eq.trans at_upd g4⟩, ⟨_, Eq.trans at_upd gO⟩, at_upd, at_upd, Nat.zero_le _, .nil ..⟩ ?_
  clear g0 g1 g4 gO G
  rintro ⟨i, w⟩ nx2 G ⟨hnx2, g0, g1, ⟨fr4, g4⟩, ⟨frO, gO⟩, g9, g11, hi, ho⟩
  dsimp only at g11 hi ho ⊢
  have hdm : (defs.map Dfn.iv).length = defs.length := List.length_map ..
  have hw1 := ho.cells1
  have hw2 := ho.one1
  rcases Bool.eq_false_or_eq_true (decide ((i : Int) < ((defs.map Dfn.iv).length : Int))) with hcc | hcc
  · have hlt : i < defs.length := by have := of_decide_eq_true hcc; omega
    obtain ⟨y, hy⟩ := at_lt hlt
    have hyi := at_map Dfn.iv hy
    have hdc := y.cells_len
    have hym := List.mem_of_getElem? hy
    have hmu : defs.length - (i + 1) < defs.length - i := by omega
    have hxn : ((now.map sv).map AV.imm)[(((srcs.map sv).length : Int) + (i : Int)).toNat]? = some (.imm (sv (to y.name))) := by
      rw [hsl, show (((srcs.length : Nat) : Int) + (i : Int)).toNat = srcs.length + i by omega, List.getElem?_map, List.getElem?_map, hdef i y hy]; rfl
    have hr := hren y.exp (hsm y hym)
    have hnm : ((now.map sv).map AV.imm).length = (now.map sv).length := List.length_map ..
    have hnm2 : (now.map sv).length = old.length := by rw [List.length_map, hnl]
    have htk : ((defs.take (i + 1)).map (renD to)).map Dfn.iv = ((defs.take i).map (renD to)).map Dfn.iv ++ [(renD to y).iv] := by
      rw [List.take_add_one, hy, List.map_append, List.map_append]; rfl
    have hlen : (((defs.take i).map (renD to)).map Dfn.iv).length ≤ 6 := by simp; omega
    simp only [renD] at htk
    obtain ⟨ny, ey⟩ := y
    simp only at hr hxn htk
    generalize to ny = nm at *
    generalize renE to ey = ee at *
    obtain ⟨o1, s1, n1, f1, c1, k1⟩ := ey
    obtain ⟨o2, s2, n2, f2, c2, k2⟩ := ee
    refine BB ?_
    refine D.opU (rd := [4, o]) (O.callFz (ids := [4] ++ ([o] ++ [])) rfl (peeks_im (peeks_one (peek_row1 g4 (by rw [List.length_map])) (peeks_one (peek_row1 gO rfl) peeks_nil))) hr rfl) ?_ rfl ?_
    · show some (List.flatMap (touch G pkDepth) [.imm _, .row 4 _, .row o _]) = _
      rw [List.flatMap_cons, List.flatMap_cons, List.flatMap_cons, touch_im, touch_row g4, touch_row gO]; rfl
    refine D.gen' (fun G2 => (∀ q, q ≠ 4 → q ≠ o → G2 q = G q) ∧ G2 4 = .row 9 1 ((old.map sv).map AV.imm) true ∧ G2 o = .row 9 1 ((now.map sv).map .imm) true) ⟨fun q h1 h2 => ?_, ?_, ?_⟩ ?_
    · show updL G (frz [4, o]) q = _
      rw [frz2_at (by omega), if_neg (by omega)]
    · show updL G (frz [4, o]) 4 = _
      rw [frz2_at (by omega), if_pos (.inl rfl), g4]; rfl
    · show updL G (frz [4, o]) o = _
      rw [frz2_at (by omega), if_pos (.inr rfl), gO]; rfl
    rintro G2 ⟨hfr, k4, kO⟩
    have k0 := (hfr 0 (by omega) (by omega)).trans g0
    have k1 := (hfr 1 (by omega) (by omega)).trans g1
    have k9 := (hfr (nx + 4 + 5) (by omega) (by omega)).trans g9
    have k11 := (hfr (nx + 4 + 7) (by omega) (by omega)).trans g11
    have ho2 := ho.fr (G' := G2) (hh := Nat.le_refl _) (hG := fun q h1 h2 => hfr q (by omega) (by omega))
    refine BD ?_
    refine D.app2 ho2 at_upd (by simp only [most]; omega) fun v' G' o' ho' hG' hG2 hlo hlo2 => ?_
    have hv1 := ho'.cells1
    have hv2 := ho'.one1
    have j0 := (hG' 0 (by omega)).trans (Eq.trans at_upd k0)
    have j1 := (hG' 1 (by omega)).trans (Eq.trans at_upd k1)
    have j4 := (hG' 4 (by omega)).trans (Eq.trans at_upd k4)
    have jO := (hG' o (by omega)).trans (Eq.trans at_upd kO)
    have j9 := (hG' (nx + 4 + 5) (by omega)).trans (Eq.trans at_upd k9)
    have j11 := (hG' (nx + 4 + 7) (by omega)).trans (Eq.trans at_upd k11)
    refine BD ?_
    refine D.skipN' [0, o, 4, nx + 4 + 7, o', nx2 + 5 + 20] (by simp; omega) [⟨0, [], [], []⟩, ⟨1, [4], [], []⟩, ⟨2, [], [], []⟩, ⟨3, [], [], []⟩, ⟨4, [1], [], []⟩, ⟨5, [], [], []⟩, ⟨6, [], [], []⟩, ⟨7, [], [], []⟩, ⟨8, [2], [], []⟩, ⟨9, [2], [], []⟩,
      ⟨10, [], [], []⟩, ⟨11, [1], [], []⟩, ⟨12, [], [], []⟩, ⟨13, [], [], []⟩, ⟨14, [], [], []⟩, ⟨15, [], [], []⟩, ⟨16, [], [], []⟩, ⟨17, [], [], []⟩, ⟨18, [3, 2], [], [3, 2]⟩, ⟨19, [], [], []⟩, ⟨20, [], [6], []⟩, ⟨21, [5, 6], [5], []⟩, ⟨22, [], [], []⟩, ⟨23, [4], [4], []⟩] rfl rfl (by kernel_rfl) ?_
    refine BB ?_
    refine W.skipLop (i + 1, v') hmu .auto ⟨by omega, Eq.trans at_upd j0, Eq.trans at_upd j1, ⟨_, Eq.trans at_upd j4⟩, ⟨_, Eq.trans at_upd jO⟩, Eq.trans at_upd j9, at_upd, hlt, ?_⟩
    show Own 95 7 (nx + 14) _ (((defs.take (i + 1)).map (renD to)).map Dfn.iv) _ v'
    rw [htk]
    exact ho'.fr
  · have hge : defs.length ≤ i := by have := of_decide_eq_false hcc; omega
    rw [List.take_of_length_le hge] at ho
    have hmk : mkAgg [.row (nx + 4 + 5) srcs.length, w] = .agg [.row (nx + 4 + 5) srcs.length, w] := mkAgg_not ⟨.row (nx + 4 + 5) srcs.length, by simp, by intro x h; cases h⟩
    have hft : AV.fits 2 (.agg [.row (nx + 4 + 5) srcs.length, w]) = true := by
      show ((2 == 2) && (true && (w.one && true))) = true
      rw [hw2]; rfl
    have hrw : Rdx 2 G (fun o => 2 ≤ o) (.agg [.row (nx + 4 + 5) srcs.length, w]) (Pgm.mk (canonL srcs.length) (defs.map (renD to))).iv :=
      Rdx.agg (d := 1) (.cons (Rdx.row (d := 0) (e := 9) (sz := 1) (fr := false) g9 (by rw [List.length_map, hcl2]) (All2.imms 0 _ _ _) (by omega)) (.cons (ho.rdx.frame (fun _ _ => rfl) fun _ h => by omega) .nil))
    refine BB ?_
    refine R.opN1 (O.storeP rfl (congrArg some hmk) hft g1 rfl rfl) ?_
    refine BB ?_
    refine W.retFinCA (cs := [.row (nx + 4 + 5) srcs.length, w]) rfl at_upd rfl rfl ?_
    rw [hmk]
    exact (hrw.frame (fun o h => at_upd) fun _ h => h).peek (by decide)
noncomputable def canonR (p : Pgm) : Pgm × Int := if progR p then (canonP p, 0) else (⟨[], []⟩, 2)
theorem progR_parts {p : Pgm} (h : progR p = true) : (oldN p).Nodup ∧ (1 ≤ p.srcs.length ∧ p.srcs.length ≤ 4) ∧ p.defs.length ≤ 6 ∧ (∀ d ∈ p.defs, d.exp.Sm) ∧ (∀ s ∈ oldN p, nameOk s = true) ∧ ∀ i d, p.defs[i]? = some d → ∀ x ∈ allE d.exp, NodeIs p.srcs (p.defs.map Dfn.name) i x := by
  have hc := progR_count h
  obtain ⟨h1, h2, h3, h4⟩ := countR_parts hc
  rw [h3] at h2 h4
  exact ⟨diff_nodup h2, ⟨h1.1, h1.2.1⟩, h1.2.2, countR_sm hc, fun s hs => diff_mem h2 hs, h4⟩
theorem ret208 {p : Pgm} (hp : p.Fits) : Ret CC 15 [p.iv] (.tup [(canonR p).1.iv, .int .i64 (canonR p).2]) := by
  have h36 := ret36 p hp
  unfold canonR
  cases hb : progR p with
  | false =>
    rw [hb] at h36
    have bt : (!false) = true := rfl
    simp only [Bool.false_eq_true, if_false]
    obtain ⟨srcs, defs⟩ := p
    refine Ret.of (fn := Go.Proofs.Tryz.f15) (by kernel_rfl) rfl rfl ?_
    refine BB ?_
    exact W.retFinCT rfl rfl rfl rfl rfl ⟨[], rfl⟩
  | true =>
    rw [hb] at h36
    obtain ⟨h1, h2, h3, h4, _⟩ := progR_parts hb
    have h209 := ret209 h1 h2 h3 h4
    have bt : (!true) = false := rfl
    simp only [if_true]
    generalize canonP p = q at *
    obtain ⟨srcs, defs⟩ := p
    obtain ⟨srcs', defs'⟩ := q
    refine Ret.of (fn := Go.Proofs.Tryz.f15) (by kernel_rfl) rfl rfl ?_
    refine BB ?_
    exact W.retFinCT rfl rfl rfl rfl rfl ⟨[], rfl⟩
end Go.Abs

/- Programs with other names, as the program makes them. -/
open Go Go.Abs
namespace Go.Abs
set_option maxRecDepth 100000
set_option maxHeartbeats 4000000
instance fnis45 : FnIs CC 14 := ⟨rfl, fun _ => rfl⟩
instance fnis211 : FnIs CC 17 := ⟨rfl, fun _ => rfl⟩
instance fnis200 : FnIs CC 16 := ⟨rfl, fun _ => rfl⟩
noncomputable def alikeR (p q : Pgm) : Bool × Int := if (progR p && progR q) = true then ((canonP p).same (canonP q), 0) else (false, 2)
theorem renE_sm {to : Str → Str} {e : Exp} (h : e.Sm) : (renE to e).Sm := by
  induction h with
  | mk op name n fold calcs kids hc hk hcs hks ih =>
  rw [renE, renL_map]
  refine .mk _ _ _ _ _ _ hc (by rw [List.length_map]; exact hk) hcs fun k hk' => ?_
  obtain ⟨x, hx, rfl⟩ := List.mem_map.1 hk'
  exact ih x hx
theorem canonP_sm {p : Pgm} (h : ∀ d ∈ p.defs, d.exp.Sm) : ∀ d ∈ (canonP p).defs, d.exp.Sm := by
  intro d hd
  obtain ⟨x, hx, rfl⟩ := List.mem_map.1 hd
  exact renE_sm (h x hx)
theorem canonP_len (p : Pgm) : (canonP p).srcs.length = p.srcs.length ∧ (canonP p).defs.length = p.defs.length := by
  unfold canonP
  exact ⟨canonL_len _, List.length_map ..⟩
theorem ret211 {p q : Pgm} (hp : p.Fits) (hq : q.Fits) : Ret CC 17 [p.iv, q.iv] (.tup [.bool (alikeR p q).1, .int .i64 (alikeR p q).2]) := by
  have h1 := ret36 p hp
  have h2 := ret36 q hq
  have bt : (!true) = false := rfl
  have bf : (!false) = true := rfl
  unfold alikeR
  cases hb : progR p with
  | false =>
    rw [hb] at h1
    simp only [Bool.false_and, Bool.false_eq_true, if_false]
    obtain ⟨srcs, defs⟩ := p
    obtain ⟨srcs', defs'⟩ := q
    refine Ret.of (fn := Go.Proofs.Tryz.f17) (by kernel_rfl) rfl rfl ?_
    refine BB ?_
    exact W.retFin2 rfl rfl ⟨[], rfl⟩
  | true =>
  rw [hb] at h1
  cases hb2 : progR q with
  | false =>
    rw [hb2] at h2
    simp only [Bool.and_false, Bool.false_eq_true, if_false]
    obtain ⟨srcs, defs⟩ := p
    obtain ⟨srcs', defs'⟩ := q
    refine Ret.of (fn := Go.Proofs.Tryz.f17) (by kernel_rfl) rfl rfl ?_
    refine BB ?_
    exact W.retFin2 rfl rfl ⟨[], rfl⟩
  | true =>
  rw [hb2] at h2
  obtain ⟨a1, a2, a3, a4, _⟩ := progR_parts hb
  obtain ⟨b1, b2, b3, b4, _⟩ := progR_parts hb2
  have h3 := ret209 a1 a2 a3 a4
  have h4 := ret209 b1 b2 b3 b4
  have hl := canonP_len p
  have h5 := ret23g (p := canonP p) (q := canonP q) (by omega) (by omega) (canonP_sm a4)
  simp only [Bool.and_self, if_true]
  generalize (canonP p).same (canonP q) = res at *
  generalize canonP p = cp at *
  generalize canonP q = cq at *
  obtain ⟨srcs, defs⟩ := p
  obtain ⟨srcs', defs'⟩ := q
  obtain ⟨s1, d1⟩ := cp
  obtain ⟨s2, d2⟩ := cq
  refine Ret.of (fn := Go.Proofs.Tryz.f17) (by kernel_rfl) rfl rfl ?_
  refine BB ?_
  exact W.retFin2 rfl rfl ⟨[], rfl⟩
theorem toLook {old now : List Str} (hl : now.length = old.length) (s : Str) : lookIs (some ty9) (some ty9) (some (old.map sv, (now.map sv).map .imm)) (sv s) false (.imm (sv (if old.contains s then now.getD (idxN old s) [] else []))) := by
  refine ⟨rfl, ?_⟩
  rw [keyFind_sv, ← findIdx_contains]
  unfold idxN
  cases h : old.findIdx? fun x => s == x with
  | none => exact .inr ⟨rfl, rfl⟩
  | some j =>
    have hj := findIdx_lt h
    obtain ⟨t, ht⟩ := at_lt (l := now) (i := j) (by omega)
    refine .inl ⟨j, .imm (sv t), rfl, by simp [ht], ?_⟩
    simp [ht]
theorem toIs_of {p : Pgm} (hn : ∀ s ∈ oldN p, nameOk s = true) {s : Str} (h : s = [] ∨ s ∈ oldN p) : ToIs ((oldN p).map sv) ((canonL (oldN p).length).map sv) (toC p) s := by
  refine ⟨fun he => ?_, fun hne => ?_⟩
  · subst he
    unfold toC toR
    rw [if_neg]
    intro h
    exact nameOk_ne (hn [] (by simpa using h)) rfl
  · have hm : s ∈ oldN p := h.resolve_left hne
    have := toLook (canonL_len (oldN p).length) s
    unfold toC toR
    rw [if_pos (by simpa using hm)] at this ⊢
    exact this
theorem setLast {old : List Str} {i : Nat} {s : Str} (hn : old.Nodup) (hi : old[i]? = some s) : keyFind (sv s) ((old.take i).map sv) = some none := by
  rw [keyFind_sv]
  cases h' : (old.take i).findIdx? fun x => s == x with
  | none => rfl
  | some j =>
    exfalso
    obtain ⟨h1, h2, _⟩ := List.findIdx?_eq_some_iff_getElem.1 h'
    have h2 : s = (old.take i)[j] := by simpa using h2
    have hj : j < i := by rw [List.length_take] at h1; omega
    have hil := (List.getElem?_eq_some_iff.1 hi).1
    rw [List.getElem_take] at h2
    exact List.pairwise_iff_getElem.1 hn j i (by omega) hil hj (by rw [← h2, (List.getElem?_eq_some_iff.1 hi).2])
theorem touch_map {G : Nat → Obj} {o : Nat} {ks vs : List IV} {fr : Bool} (h : G o = .mp ks (vs.map .imm) fr) : touch G pkDepth (.map o) = [o] := by
  show touch G (99 + 1) _ = _
  unfold touch
  rw [h]
  dsimp only
  rw [touch_imms]
theorem ret45 {p : Pgm} (hp : p.Fits) : Ret CC 14 [p.iv] (.tup [(canonR p).1.iv, .int .i64 (canonR p).2]) := by
  have h54 := ret54 p hp
  unfold canonR
  unfold lookedIV at h54
  cases hb : progR p with
  | false =>
    rw [hb] at h54
    simp only [Bool.false_eq_true, if_false] at h54 ⊢
    obtain ⟨srcs, defs⟩ := p
    refine Ret.of (fn := Go.Proofs.Tryz.f14) (by kernel_rfl) rfl rfl ?_
    refine BB ?_
    exact W.retFinCT rfl rfl rfl rfl rfl ⟨[], rfl⟩
  | true =>
  rw [hb] at h54
  simp only [if_true] at h54 ⊢
  obtain ⟨cs, hcs⟩ : ∃ cs, scopeIV p ((p.defs.length - 1 : Nat) : Int) (countR p) = .fptr cs 0 := ⟨_, rfl⟩
  rw [hcs] at h54
  obtain ⟨hn, hs, hd, hsm, hok, hnode⟩ := progR_parts hb
  have hol : (oldN p).length = p.srcs.length + p.defs.length := oldN_len p
  have hON : oldN p = p.srcs ++ p.defs.map Dfn.name := rfl
  have hdef := fun i d h => toC_def hn (i := i) (d := d) h
  have hren : ∀ d ∈ p.defs, Ret CC 54 [d.exp.iv, .fmp ((oldN p).map sv) ((canonL (oldN p).length).map sv)] (renE (toC p) d.exp).iv := fun d hd => ret77 (hsm d hd) fun x hx => by
    obtain ⟨i, hi⟩ := List.mem_iff_getElem?.1 hd
    exact toIs_of hok (hnode i d hi x hx).named
  have htk : (canonL (oldN p).length).take p.srcs.length = canonL p.srcs.length := canonL_take (by omega)
  have hlk : ∀ d ∈ p.defs, lookIs (some ty9) (some ty9) (some ((oldN p).map sv, ((canonL (oldN p).length).map sv).map .imm)) (sv d.name) false (.imm (sv (toC p d.name))) := fun d hd =>
    (toIs_of hok (.inr (List.mem_append_right _ (List.mem_map.2 ⟨d, hd, rfl⟩)))).2 (nameOk_ne (hok _ (List.mem_append_right _ (List.mem_map.2 ⟨d, hd, rfl⟩))))
  have h75 := ret75 p.defs (by omega)
  unfold canonP
  generalize toC p = to at *
  generalize hold : oldN p = old at *
  obtain ⟨srcs, defs⟩ := p
  simp only at *
  have horc : CC.orc 50 [.lst (srcs.map sv)] = some (.own 9 1 (srcs.map sv)) := by
    show (if (srcs.map sv).all isStrIV = true ∧ (srcs.map sv).length ≤ 4294967296 then some (OrcR.own 9 1 (srcs.map sv)) else none) = _
    rw [if_pos ⟨by rw [List.all_map]; exact List.all_eq_true.2 fun _ _ => rfl, by simp; omega⟩]
  have hfs : ∀ l : List Str, ((l.map sv).map AV.imm).all (AV.fits 1) = true := fun l => fits_all (fun y hy => by obtain ⟨z, _, rfl⟩ := List.mem_map.1 hy; rfl)
  refine Ret.of (fn := Go.Proofs.Tryz.f14) (by kernel_rfl) rfl rfl ?_
  refine BB ?_
  refine D.op1 (O.callOwnI rfl horc rfl rfl) rfl rfl ?_
  refine BD ?_
  have hsl : (srcs.map sv).length = srcs.length := List.length_map ..
  refine D.op1 (O.appRow (xs := (srcs.map sv).map AV.imm) (ys := ((defs.map Dfn.name).map sv).map AV.imm) rfl rfl rfl at_upd (List.length_map ..) rfl rfl (by decide) (by decide) rfl (hfs _) (by simp only [List.length_map, most]; omega)) rfl rfl ?_
  have hrow : (srcs.map sv).map AV.imm ++ ((defs.map Dfn.name).map sv).map AV.imm = (old.map sv).map AV.imm := by rw [hON, List.map_append, List.map_append]
  rw [hrow]
  have hlo : ((old.map sv).map AV.imm).length = old.length := by simp
  rw [hlo]
  refine BB ?_
  refine W.loop (X := Nat × AV) (fun x => [(1, .ptr 0 0), (2, .ptr 1 0), (4, .map 6), (5, x.2), (22, .row 11 old.length), (23, .imm (.int .i64 old.length)), (24, .imm (.int .i64 x.1))])
    (fun x nx G => 18 ≤ nx ∧ G 0 = .box [.imm (.lst (srcs.map sv)), .imm (.lst (defs.map Dfn.iv))] false ∧ G 1 = .box ty29.zero.cells false ∧ G 6 = .mp ((old.take x.1).map sv) (((canonL x.1).map sv).map .imm) false ∧ G 11 = .row 9 1 ((old.map sv).map AV.imm) false ∧ x.1 ≤ old.length ∧ Own 9 1 18 nx ((canonL x.1).map sv) G x.2)
    (fun x => old.length - x.1) (0, .nils) .auto ⟨by omega, rfl, rfl, rfl, rfl, Nat.zero_le _, .nil ..⟩ ?_
  rintro ⟨i, w⟩ nx G ⟨hnx, g0, g1, g6, g11, hi, ho⟩
  dsimp only at g6 hi ho ⊢
  rcases Bool.eq_false_or_eq_true (decide ((i : Int) < (old.length : Int))) with hcc | hcc
  · have hlt : i < old.length := by have := of_decide_eq_true hcc; omega
    have hmu : old.length - (i + 1) < old.length - i := by omega
    obtain ⟨s, hsi⟩ := at_lt hlt
    have hxn : ((old.map sv).map AV.imm)[((i : Nat) : Int).toNat]? = some (.imm (sv s)) := by
      rw [Int.toNat_natCast, List.getElem?_map, List.getElem?_map, hsi]; rfl
    have hr := ret12f (l := canonL i) (by rw [canonL_len]; omega)
    obtain ⟨ids, hids⟩ := ho.peek (k := 99)
    have hcl : ((canonL i).map sv).length ≤ 100 := by rw [List.length_map, canonL_len]; omega
    have hcs : (canonL (i + 1)).map sv = (canonL i).map sv ++ [sv (freshOf (canonL i))] := by rw [canonL, List.map_append]; rfl
    have hts : (old.take (i + 1)).map sv = (old.take i).map sv ++ [sv s] := by rw [List.take_add_one, hsi, List.map_append]; rfl
    have hset := setLast hn hsi
    have hlook := toLook (old := old.take (i + 1)) (now := canonL (i + 1)) (by rw [canonL_len, List.length_take]; omega) s
    have hti : (old.take (i + 1))[i]? = some s := by rw [List.getElem?_take]; simpa using hsi
    rw [if_pos (by simpa using List.mem_iff_getElem?.2 ⟨i, hti⟩), idxN_at (hn.sublist (List.take_sublist _ _)) hti, List.getD_eq_getElem?_getD, canonL_at (Nat.lt_succ_self i), Option.getD_some] at hlook
    refine BB ?_
    refine R.op0 (O.callP rfl (peeks_one hids peeks_nil) hr rfl) rfl ?_
    refine R.opN1 (O.mapNew rfl inferInstance rfl rfl rfl g6 rfl hset) ?_
    refine R.gen' (fun G2 => (∀ q, q ≠ 6 → G2 q = G q) ∧ G2 6 = .mp ((old.take (i + 1)).map sv) (((canonL (i + 1)).map sv).map .imm) false) ⟨fun q hq => upd_ne _ _ _ _ hq, by rw [upd_same, hts, hcs, List.map_append]; rfl⟩ ?_
    rintro G2 ⟨hfr, k6⟩
    have hlook2 : lookIs (some ty9) (some ty9) (mapKV G2 (.map 6)) (sv s) false (.imm (sv (freshOf (canonL i)))) := by
      simp only [mapKV, k6]; exact hlook
    have k0 := (hfr 0 (by omega)).trans g0
    have k1 := (hfr 1 (by omega)).trans g1
    have k11 := (hfr 11 (by omega)).trans g11
    have ho2 := ho.fr (G' := G2) (hh := Nat.le_refl _) (hG := fun q h1 h2 => hfr q (by omega))
    refine BB ?_
    refine R.app1 ho2 at_upd (by simp only [most]; omega) fun v' G' ho' hG' => ?_
    rw [← hcs] at ho'
    refine BB ?_
    exact W.skipLop (i + 1, v') hmu .auto ⟨by omega, (hG' 0 (by omega)).trans (Eq.trans at_upd k0), (hG' 1 (by omega)).trans (Eq.trans at_upd k1), (hG' 6 (by omega)).trans (Eq.trans at_upd k6), (hG' 11 (by omega)).trans (Eq.trans at_upd k11), hlt, ho'.fr⟩
  have hge : old.length ≤ i := by have := of_decide_eq_false hcc; omega
  obtain rfl : i = old.length := by omega
  rw [List.take_of_length_le (Nat.le_refl _)] at g6
  rcases ho with ⟨hnil, _⟩ | ⟨o, ho1, ho2, rfl, hGo⟩
  · have := congrArg List.length hnil
    rw [List.length_map, canonL_len, List.length_nil] at this
    omega
  have hnl : (canonL old.length).length = old.length := canonL_len _
  have htk2 : (((canonL old.length).map sv).take srcs.length).drop 0 = (canonL srcs.length).map sv := by rw [List.drop_zero, ← List.map_take, htk]
  have hcl : (((canonL old.length).map sv).all fun y => y.cells.length == 1) = true := by
    rw [List.all_eq_true]
    intro y hy
    obtain ⟨z, _, rfl⟩ := List.mem_map.1 hy
    rfl
  generalize hnow : canonL old.length = now at *
  refine BB ?_
  refine R.opU (O.sliceG rfl rfl (peek_row1 hGo rfl) (n := srcs.length) (m := 0) (boundE_at rfl (by rw [hsl]) (by rw [List.length_map]; omega)) rfl hcl) rfl ?_
  rw [htk2]
  refine R.gen' (fun G => G 0 = .box [.imm (.lst (srcs.map sv)), .imm (.lst (defs.map Dfn.iv))] false ∧ G 1 = .box ty29.zero.cells false ∧ G 6 = .mp (old.map sv) ((now.map sv).map .imm) false) ⟨by rw [frz_at, if_neg (by omega)]; exact g0, by rw [frz_at, if_neg (by omega)]; exact g1, by rw [frz_at, if_neg (by omega)]; exact g6⟩ ?_
  clear g0 g1 g6 g11 hGo
  rintro G ⟨g0, g1, g6⟩
  have hcl2 : ((canonL srcs.length).map sv).length = srcs.length := by rw [List.length_map, canonL_len]
  have horc2 : CC.orc 50 [.lst ((canonL srcs.length).map sv)] = some (.own 9 1 ((canonL srcs.length).map sv)) := by
    show (if ((canonL srcs.length).map sv).all isStrIV = true ∧ ((canonL srcs.length).map sv).length ≤ 4294967296 then some (OrcR.own 9 1 ((canonL srcs.length).map sv)) else none) = _
    rw [if_pos ⟨by rw [List.all_map]; exact List.all_eq_true.2 fun _ _ => rfl, by omega⟩]
  refine R.op1 (O.callOwnI rfl horc2 rfl rfl) rfl ?_
  rw [hcl2]
  refine BB ?_
  have hdm : (defs.map Dfn.iv).length = defs.length := List.length_map ..
  refine W.loop (X := Nat × AV) (fun x => [(1, .ptr 0 0), (2, .ptr 1 0), (4, .map 6), (8, .ptr (nx + 1 + 7) 0), (47, .imm (.lst (defs.map Dfn.iv))), (48, .imm (.int .i64 (defs.map Dfn.iv).length)), (49, .imm (.int .i64 x.1))])
    (fun x nx2 G2 => nx + 14 ≤ nx2 ∧ G2 0 = .box [.imm (.lst (srcs.map sv)), .imm (.lst (defs.map Dfn.iv))] false ∧ G2 1 = .box ty29.zero.cells false ∧ (∃ fr, G2 6 = .mp (old.map sv) ((now.map sv).map .imm) fr) ∧
      G2 (nx + 1 + 5) = .row 9 1 (((canonL srcs.length).map sv).map .imm) false ∧ G2 (nx + 1 + 7) = .box [.row (nx + 1 + 5) srcs.length, x.2] false ∧ x.1 ≤ defs.length ∧ Own 95 7 (nx + 14) nx2 (((defs.take x.1).map (renD to)).map Dfn.iv) G2 x.2)
    (fun x => defs.length - x.1) (0, .nils) .auto ⟨by omega, Eq.trans at_upd g0, Eq.trans at_upd g1, ⟨_, Eq.trans at_upd g6⟩, at_upd, at_upd, Nat.zero_le _, .nil ..⟩ ?_
  clear g0 g1 g6 G
  rintro ⟨i, w⟩ nx2 G ⟨hnx2, g0, g1, ⟨fr6, g6⟩, g9, g8, hi, ho⟩
  dsimp only at g8 hi ho ⊢
  have hw1 := ho.cells1
  have hw2 := ho.one1
  rcases Bool.eq_false_or_eq_true (decide ((i : Int) < ((defs.map Dfn.iv).length : Int))) with hcc | hcc
  · have hlt : i < defs.length := by have := of_decide_eq_true hcc; omega
    obtain ⟨y, hy⟩ := at_lt hlt
    have hyi := at_map Dfn.iv hy
    have hdc := y.cells_len
    have hym := List.mem_of_getElem? hy
    have hmu : defs.length - (i + 1) < defs.length - i := by omega
    have hr := hren y hym
    have hlook := hlk y hym
    have htk : ((defs.take (i + 1)).map (renD to)).map Dfn.iv = ((defs.take i).map (renD to)).map Dfn.iv ++ [(renD to y).iv] := by
      rw [List.take_add_one, hy, List.map_append, List.map_append]; rfl
    have hlen : (((defs.take i).map (renD to)).map Dfn.iv).length ≤ 6 := by simp; omega
    simp only [renD] at htk
    obtain ⟨ny, ey⟩ := y
    simp only at hr hlook htk
    generalize to ny = nm at *
    generalize renE to ey = ee at *
    obtain ⟨o1, s1, n1, f1, c1, k1⟩ := ey
    obtain ⟨o2, s2, n2, f2, c2, k2⟩ := ee
    have hlook2 : ∀ {G2 : Nat → Obj} (_ : G2 6 = .mp (old.map sv) ((now.map sv).map .imm) fr6), lookIs (some ty9) (some ty9) (mapKV G2 (.map 6)) (sv ny) false (.imm (sv nm)) := fun {G2} h => by
      simp only [mapKV, h]; exact hlook
    refine BB ?_
    refine D.gen' (fun G2 => (∀ q, q < nx2 → G2 q = G q) ∧ G2 (nx2 + 1 + 2) = .box [.imm (sv ny), .imm (.int .i64 o1), .imm (sv s1), .imm (.int .i64 n1), .imm (.int .i64 f1), .imm (.lst (Trm.ivs c1)), .imm (.lst (Exp.ivs k1))] false) ⟨fun q hq => at_upd, at_upd⟩ ?_
    rintro G2 ⟨hfr, kd⟩
    have k6 := (hfr 6 (by omega)).trans g6
    refine D.op0 (O.lookA rfl inferInstance inferInstance rfl rfl rfl (hlook2 k6)) rfl rfl ?_
    refine BD ?_
    refine D.opU (rd := [6]) (O.callFz (ids := [6] ++ []) rfl (peeks_im (peeks_one (peek_mpx k6) peeks_nil)) hr rfl) ?_ rfl ?_
    · show some (List.flatMap (touch G2 pkDepth) [.imm _, .map 6]) = _
      rw [List.flatMap_cons, List.flatMap_cons, touch_im, touch_map k6]; rfl
    refine D.gen' (fun G3 => (∀ q, q ≠ 6 → G3 q = G2 q) ∧ G3 6 = .mp (old.map sv) ((now.map sv).map .imm) true) ⟨fun q h => ?_, ?_⟩ ?_
    · show updL G2 (frz [6]) q = _
      rw [frz_at, if_neg h]
    · show updL G2 (frz [6]) 6 = _
      rw [frz_at, if_pos rfl, k6]; rfl
    rintro G3 ⟨hfr3, j6⟩
    have j0 := ((hfr3 0 (by omega)).trans (hfr 0 (by omega))).trans g0
    have j1 := ((hfr3 1 (by omega)).trans (hfr 1 (by omega))).trans g1
    have j9 := ((hfr3 (nx + 1 + 5) (by omega)).trans (hfr _ (by omega))).trans g9
    have j8 := ((hfr3 (nx + 1 + 7) (by omega)).trans (hfr _ (by omega))).trans g8
    have ho2 := ho.fr (G' := G3) (hh := Nat.le_refl _) (hG := fun q h1 h2 => (hfr3 q (by omega)).trans (hfr q (by omega)))
    refine BD ?_
    refine D.app2 ho2 at_upd (by simp only [most]; omega) fun v' G' o' ho' hG' hG2 hlo hlo2 => ?_
    have hv1 := ho'.cells1
    have hv2 := ho'.one1
    have i0 := (hG' 0 (by omega)).trans (Eq.trans at_upd j0)
    have i1 := (hG' 1 (by omega)).trans (Eq.trans at_upd j1)
    have i6 := (hG' 6 (by omega)).trans (Eq.trans at_upd j6)
    have i9 := (hG' (nx + 1 + 5) (by omega)).trans (Eq.trans at_upd j9)
    have i8 := (hG' (nx + 1 + 7) (by omega)).trans (Eq.trans at_upd j8)
    refine BD ?_
    refine D.skipN' [6, nx + 1 + 7, nx2 + 1 + 2, o', nx2 + 1 + 4 + 11] (by simp; omega) [⟨0, [], [], []⟩, ⟨1, [2], [], []⟩, ⟨2, [], [], []⟩, ⟨3, [], [], []⟩, ⟨4, [3], [], []⟩, ⟨5, [1], [], []⟩, ⟨6, [], [], []⟩, ⟨7, [3], [], []⟩, ⟨8, [], [], []⟩,
      ⟨9, [1], [], [1]⟩, ⟨10, [], [], []⟩, ⟨11, [], [5], []⟩, ⟨12, [4, 5], [4], []⟩, ⟨13, [], [], []⟩, ⟨14, [2], [2], []⟩] rfl rfl (by kernel_rfl) ?_
    refine BB ?_
    refine W.skipLop (i + 1, v') hmu .auto ⟨by omega, Eq.trans at_upd i0, Eq.trans at_upd i1, ⟨_, Eq.trans at_upd i6⟩, Eq.trans at_upd i9, at_upd, hlt, ?_⟩
    show Own 95 7 (nx + 14) _ (((defs.take (i + 1)).map (renD to)).map Dfn.iv) _ v'
    rw [htk]
    exact ho'.fr
  · have hge : defs.length ≤ i := by have := of_decide_eq_false hcc; omega
    rw [List.take_of_length_le hge] at ho
    have hmk : mkAgg [.row (nx + 1 + 5) srcs.length, w] = .agg [.row (nx + 1 + 5) srcs.length, w] := mkAgg_not ⟨.row (nx + 1 + 5) srcs.length, by simp, by intro x h; cases h⟩
    have hft : AV.fits 2 (.agg [.row (nx + 1 + 5) srcs.length, w]) = true := by
      show ((2 == 2) && (true && (w.one && true))) = true
      rw [hw2]; rfl
    have hrw : Rdx 2 G (fun o => 2 ≤ o) (.agg [.row (nx + 1 + 5) srcs.length, w]) (Pgm.mk (canonL srcs.length) (defs.map (renD to))).iv :=
      Rdx.agg (d := 1) (.cons (Rdx.row (d := 0) (e := 9) (sz := 1) (fr := false) g9 (by rw [List.length_map, hcl2]) (All2.imms 0 _ _ _) (by omega)) (.cons (ho.rdx.frame (fun _ _ => rfl) fun _ h => by omega) .nil))
    refine BB ?_
    refine R.opN1 (O.storeP rfl (congrArg some hmk) hft g1 rfl rfl) ?_
    refine BB ?_
    refine W.retFinCT (cs := [.row (nx + 1 + 5) srcs.length, w]) rfl at_upd rfl rfl rfl ?_
    rw [hmk]
    exact Rdx.peek (d := 3) (P := fun o => 2 ≤ o) (Rdx.tup (d := 2) (.cons (hrw.frame (fun o h => at_upd) fun _ h => h) (.cons (.imm ..) .nil))) (by decide)
end Go.Abs

/- Which programs are alike. -/
open Go Go.Abs
namespace Go.Abs
set_option maxRecDepth 100000
set_option maxHeartbeats 4000000
theorem canonR_sm (p : Pgm) : (canonR p).1.srcs.length ≤ 4 ∧ (canonR p).1.defs.length ≤ 6 ∧ ∀ d ∈ (canonR p).1.defs, d.exp.Sm := by
  unfold canonR
  cases hb : progR p with
  | false => simp
  | true =>
    obtain ⟨_, h2, h3, h4, _⟩ := progR_parts hb
    have := canonP_len p
    simp only [if_true]
    exact ⟨by omega, by omega, canonP_sm h4⟩
theorem canonR_err (p : Pgm) : (canonR p).2 = if progR p then 0 else 2 := by
  unfold canonR
  cases progR p <;> rfl
theorem canonR_ok {p : Pgm} (h : progR p = true) : canonR p = (canonP p, 0) := by unfold canonR; rw [h]; rfl
theorem ret200 {p q : Pgm} (hp : p.Fits) (hq : q.Fits) : Ret CC 16 [p.iv, q.iv] (.tup [.bool (alikeR p q).1, .int .i64 (alikeR p q).2]) := by
  have h1 := ret45 hp
  have h2 := ret45 hq
  have e1 := canonR_err p
  have e2 := canonR_err q
  obtain ⟨s1, s2, s3⟩ := canonR_sm p
  have h3 := ret202 (canonR p).1.srcs (canonR q).1.srcs (by omega)
  have h4 := ret203 (p := Dfn.same) (cap := []) fnis201 (canonR p).1.defs (canonR q).1.defs (by omega) fun c hc d _ => ret201 (s3 c hc)
  have hal : progR p = true → progR q = true → alikeR p q = (((canonR p).1.srcs == (canonR q).1.srcs) && eqF Dfn.same (canonR p).1.defs (canonR q).1.defs, 0) := by
    intro a b
    unfold alikeR
    rw [canonR_ok a, canonR_ok b, a, b]
    rfl
  have hno : (progR p && progR q) = false → alikeR p q = (false, 2) := by
    intro h
    unfold alikeR
    rw [h]; rfl
  generalize alikeR p q = res at *
  obtain ⟨res1, res2⟩ := res
  generalize canonR p = cp at *
  generalize canonR q = cq at *
  obtain ⟨⟨srcs1, defs1⟩, n1⟩ := cp
  obtain ⟨⟨srcs2, defs2⟩, n2⟩ := cq
  simp only at *
  generalize (srcs1 == srcs2) = b1 at *
  generalize eqF Dfn.same defs1 defs2 = b2 at *
  cases hb : progR p with
  | false =>
    have hno := hno (by rw [hb]; rfl)
    rw [hb] at e1
    simp only [Prod.mk.injEq] at hno
    obtain ⟨rfl, rfl⟩ := hno
    simp only [Bool.false_eq_true, if_false] at e1
    subst e1
    obtain ⟨srcs, defs⟩ := p
    obtain ⟨srcs', defs'⟩ := q
    refine Ret.of (fn := Go.Proofs.Tryz.f16) (by kernel_rfl) rfl rfl ?_
    refine BB ?_
    exact W.retFin2 rfl rfl ⟨[], rfl⟩
  | true =>
  rw [hb] at e1
  simp only [if_true] at e1
  subst e1
  cases hb2 : progR q with
  | false =>
    have hno := hno (by rw [hb2, Bool.and_false])
    rw [hb2] at e2
    simp only [Prod.mk.injEq] at hno
    obtain ⟨rfl, rfl⟩ := hno
    simp only [Bool.false_eq_true, if_false] at e2
    subst e2
    obtain ⟨srcs, defs⟩ := p
    obtain ⟨srcs', defs'⟩ := q
    refine Ret.of (fn := Go.Proofs.Tryz.f16) (by kernel_rfl) rfl rfl ?_
    refine BB ?_
    exact W.retFin2 rfl rfl ⟨[], rfl⟩
  | true =>
  rw [hb2] at e2
  simp only [if_true] at e2
  subst e2
  have hal := hal hb hb2
  simp only [Prod.mk.injEq] at hal
  obtain ⟨rfl, rfl⟩ := hal
  obtain ⟨srcs, defs⟩ := p
  obtain ⟨srcs', defs'⟩ := q
  refine Ret.of (fn := Go.Proofs.Tryz.f16) (by kernel_rfl) rfl rfl ?_
  cases b1 with
  | false =>
    refine BB ?_
    exact W.retFin2 rfl rfl ⟨[], rfl⟩
  | true =>
    refine BB ?_
    exact W.retFin2 rfl rfl ⟨[], rfl⟩
instance fnis24 : FnIs CC 13 := ⟨rfl, fun _ => rfl⟩
theorem ret24 {p : Pgm} (h : p.Sm) : Ret CC 13 [p.iv] p.iv := by
  have hsm := h.exp
  have hs := h.srcs
  have hd := h.defs
  obtain ⟨srcs, defs⟩ := p
  simp only at *
  have hdm : (defs.map Dfn.iv).length = defs.length := List.length_map ..
  have hfs : ∀ l : List Str, ((l.map sv).map AV.imm).all (AV.fits 1) = true := fun l => fits_all (fun y hy => by obtain ⟨z, _, rfl⟩ := List.mem_map.1 hy; rfl)
  refine Ret.of (fn := Go.Proofs.Tryz.f13) (by kernel_rfl) rfl rfl ?_
  refine BB ?_
  refine R.op1 (O.appNil rfl rfl rfl rfl (ys := (srcs.map sv).map AV.imm) rfl (by decide) (by decide) rfl (hfs _) (by simp only [List.length_map, most]; omega)) rfl ?_
  have hsl : ((srcs.map sv).map AV.imm).length = srcs.length := by simp
  rw [hsl]
  refine BB ?_
  refine W.loop (X := Nat × AV) (fun x => [(1, .ptr 0 0), (2, .ptr 1 0), (3, .ptr 6 0), (4, .imm (.int .i64 x.1))])
    (fun x nx G => 9 ≤ nx ∧ G 0 = .box [.imm (.lst (srcs.map sv)), .imm (.lst (defs.map Dfn.iv))] false ∧ G 1 = .box ty29.zero.cells false ∧ G 4 = .row 9 1 ((srcs.map sv).map AV.imm) false ∧ G 6 = .box [.row 4 srcs.length, x.2] false ∧ x.1 ≤ defs.length ∧ Own 95 7 9 nx ((defs.take x.1).map Dfn.iv) G x.2)
    (fun x => defs.length - x.1) (0, .nils) .auto ⟨by omega, rfl, rfl, rfl, rfl, Nat.zero_le _, .nil ..⟩ ?_
  rintro ⟨i, w⟩ nx G ⟨hnx, g0, g1, g4, g6, hi, ho⟩
  dsimp only at g6 hi ho ⊢
  have hw1 := ho.cells1
  have hw2 := ho.one1
  rcases Bool.eq_false_or_eq_true (decide ((i : Int) < ((defs.map Dfn.iv).length : Int))) with hcc | hcc
  · have hlt : i < defs.length := by have := of_decide_eq_true hcc; omega
    obtain ⟨y, hy⟩ := at_lt hlt
    have hyi := at_map Dfn.iv hy
    have hdc := y.cells_len
    have hmu : defs.length - (i + 1) < defs.length - i := by omega
    have hr := ret62 (hsm y (List.mem_of_getElem? hy))
    have htk : (defs.take (i + 1)).map Dfn.iv = (defs.take i).map Dfn.iv ++ [y.iv] := by
      rw [List.take_add_one, hy, List.map_append]; rfl
    have hlen : ((defs.take i).map Dfn.iv).length ≤ 1048576 := by simp; omega
    obtain ⟨ny, ⟨o1, s1, n1, f1, c1, k1⟩⟩ := y
    refine BB ?_
    refine D.app2 ho at_upd (by simp only [most]; omega) fun v' G' o' ho' hG' hG2 hlo hlo2 => ?_
    have hv1 := ho'.cells1
    have hv2 := ho'.one1
    have i0 := (hG' 0 (by omega)).trans (Eq.trans at_upd g0)
    have i1 := (hG' 1 (by omega)).trans (Eq.trans at_upd g1)
    have i4 := (hG' 4 (by omega)).trans (Eq.trans at_upd g4)
    have i6 := (hG' 6 (by omega)).trans (Eq.trans at_upd g6)
    refine BD ?_
    refine D.skipN' [0, 6, o', nx + 5 + 16] (by simp; omega) [⟨0, [], [], []⟩, ⟨1, [2], [], []⟩, ⟨2, [], [], []⟩, ⟨3, [1], [], []⟩, ⟨4, [], [], []⟩, ⟨5, [], [], []⟩, ⟨6, [], [], []⟩, ⟨7, [], [], []⟩, ⟨8, [], [], []⟩, ⟨9, [1], [], []⟩,
      ⟨10, [], [], []⟩, ⟨11, [], [], []⟩, ⟨12, [], [], []⟩, ⟨13, [], [], []⟩, ⟨14, [], [], []⟩, ⟨15, [], [], []⟩, ⟨16, [], [4], []⟩, ⟨17, [3, 4], [3], []⟩, ⟨18, [], [], []⟩, ⟨19, [2], [2], []⟩] rfl rfl (by kernel_rfl) ?_
    refine BB ?_
    refine W.skipLop (i + 1, v') hmu .auto ⟨by omega, Eq.trans at_upd i0, Eq.trans at_upd i1, Eq.trans at_upd i4, at_upd, hlt, ?_⟩
    show Own 95 7 9 _ ((defs.take (i + 1)).map Dfn.iv) _ v'
    rw [htk]
    exact ho'.fr
  · have hge : defs.length ≤ i := by have := of_decide_eq_false hcc; omega
    rw [List.take_of_length_le hge] at ho
    have hmk : mkAgg [.row 4 srcs.length, w] = .agg [.row 4 srcs.length, w] := mkAgg_not ⟨.row 4 srcs.length, by simp, by intro x h; cases h⟩
    have hft : AV.fits 2 (.agg [.row 4 srcs.length, w]) = true := by
      show ((2 == 2) && (true && (w.one && true))) = true
      rw [hw2]; rfl
    have hrw : Rdx 2 G (fun o => 2 ≤ o) (.agg [.row 4 srcs.length, w]) (Pgm.mk srcs defs).iv :=
      Rdx.agg (d := 1) (.cons (Rdx.row (d := 0) (e := 9) (sz := 1) (fr := false) g4 hsl (All2.imms 0 _ _ _) (by omega)) (.cons (ho.rdx.frame (fun _ _ => rfl) fun _ h => by omega) .nil))
    refine BB ?_
    refine R.opN1 (O.storeP rfl (congrArg some hmk) hft g1 rfl rfl) ?_
    refine BB ?_
    refine W.retFinCA (cs := [.row 4 srcs.length, w]) rfl at_upd rfl rfl ?_
    rw [hmk]
    exact (hrw.frame (fun o h => at_upd) fun _ h => h).peek (by decide)
theorem ret212 {p q : Pgm} (hp : p.Fits) (hq : q.Fits) (sp : p.Sm) (sq : q.Sm) : Ret CC 3 [p.iv, q.iv] (.bool true) := by
  have h1 := ret24 sp
  have h2 := ret24 sq
  have h3 := ret45 hp
  have h4 := ret208 hp
  have h5 := ret200 hp hq
  have h6 := ret211 hp hq
  obtain ⟨s1, s2, s3⟩ := canonR_sm p
  have h7 := ret23 (p := (canonR p).1) (by omega) (by omega) s3
  have h8 := ret23 (p := p) (by have := sp.srcs; omega) (by have := sp.defs; omega) sp.exp
  have h9 := ret23 (p := q) (by have := sq.srcs; omega) (by have := sq.defs; omega) sq.exp
  have h10 := ret14
  generalize alikeR p q = res at *
  obtain ⟨res1, res2⟩ := res
  generalize canonR p = cp at *
  obtain ⟨⟨srcs1, defs1⟩, n1⟩ := cp
  obtain ⟨srcs, defs⟩ := p
  obtain ⟨srcs', defs'⟩ := q
  simp only at *
  have b1 : (n1 == n1) = true := by simp
  have b2 : (res1 == res1) = true := by simp
  have b3 : (res2 == res2) = true := by simp
  refine Ret.of (fn := Go.Proofs.Tryz.f3) (by kernel_rfl) rfl rfl ?_
  refine BB ?_
  exact W.retFin1 rfl ⟨[], rfl⟩
end Go.Abs
