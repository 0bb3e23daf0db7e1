/- Rows of lags in memory. -/
import Derived.Test.YtbdoijpclmhbaaaGreatLag11
open Go Go.Abs
namespace Go.Abs
set_option maxRecDepth 100000
set_option maxHeartbeats 4000000
def ty349 : TyI := { d := TyD.sl 147, sz := 1, bytes := 24, zero := AV.nils }
instance tyis349 : TyIs CC 49 ty349 := ⟨by kernel_rfl⟩
def ty346 : TyI := { d := TyD.sl 49, sz := 1, bytes := 24, zero := AV.nils }
instance tyis346 : TyIs CC 46 ty346 := ⟨by kernel_rfl⟩
def ty432 : TyI := { d := TyD.sl 153, sz := 1, bytes := 24, zero := AV.nils }
instance tyis432 : TyIs CC 132 ty432 := ⟨by kernel_rfl⟩
def ty433 : TyI := { d := TyD.sl 132, sz := 1, bytes := 24, zero := AV.nils }
instance tyis433 : TyIs CC 133 ty433 := ⟨by kernel_rfl⟩
def RowL (et lo hi : Nat) (G : Nat → Obj) (v : AV) (l : List Lg) : Prop := ∃ o fr, lo ≤ o ∧ o < hi ∧ v = .row o l.length ∧ G o = .row et 4 ((l.map Lg.iv).map .imm) fr
section
variable {et lo hi lo' hi' : Nat} {G G' : Nat → Obj} {v : AV} {l : List Lg}
theorem RowL.frame (h : RowL et lo hi G v l) (h0 : lo' ≤ lo) (hh : hi ≤ hi') (hG : ∀ o, lo ≤ o → o < hi → (∃ xs fr, G o = .row et 4 xs fr) → G' o = G o) : RowL et lo' hi' G' v l := by
  obtain ⟨o, fr, h1, h2, h3, h4⟩ := h
  exact ⟨o, fr, by omega, by omega, h3, by rw [hG o h1 h2 ⟨_, _, h4⟩]; exact h4⟩
theorem RowL.peek (h : RowL et lo hi G v l) : ∃ o, lo ≤ o ∧ o < hi ∧ Go.Abs.peek G pkDepth v = some (.lst (l.map Lg.iv), [o]) := by
  obtain ⟨o, fr, h1, h2, rfl, h4⟩ := h
  exact ⟨o, h1, h2, peek_row1 h4 (by simp)⟩
theorem RowL.fits (h : RowL et lo hi G v l) : v.fits 1 = true := by
  obtain ⟨o, fr, _, _, rfl, _⟩ := h
  rfl
theorem RowL.rdx (h : RowL et lo hi G v l) : Rdx 1 G (fun o => lo ≤ o ∧ o < hi) v (.lst (l.map Lg.iv)) := by
  obtain ⟨o, fr, h1, h2, rfl, h4⟩ := h
  exact Rdx.row h4 (by simp) (All2.imms 0 _ _ _) ⟨h1, h2⟩
theorem Own.rowL (h : Own et 4 lo hi (l.map Lg.iv) G v) (hl : l ≠ []) : RowL et lo hi G v l := by
  rcases h with ⟨h, _⟩ | ⟨o, h1, h2, h3, h4⟩
  · exact absurd (List.map_eq_nil_iff.1 h) hl
  · exact ⟨o, false, h1, h2, by rw [h3, List.length_map], h4⟩
end
def RowU (et lo hi : Nat) (G : Nat → Obj) (v : AV) (l : List Lg) : Prop := ∃ o, lo ≤ o ∧ o < hi ∧ v = .row o l.length ∧ G o = .row et 4 ((l.map Lg.iv).map .imm) false
theorem RowU.rowL {et lo hi : Nat} {G : Nat → Obj} {v : AV} {l : List Lg} (h : RowU et lo hi G v l) : RowL et lo hi G v l := by
  obtain ⟨o, h1, h2, h3, h4⟩ := h
  exact ⟨o, false, h1, h2, h3, h4⟩
theorem getD_range {L : List Lg} {n : Nat} (hl : L.length = n) : (List.range n).map (fun s => L.getD s Lg.z) = L := by
  refine List.ext_getElem? fun s => ?_
  simp only [List.getElem?_map]
  by_cases hs : s < n
  · rw [List.getElem?_range hs, List.getElem?_eq_getElem (by omega)]
    simp [List.getD_eq_getElem?_getD, List.getElem?_eq_getElem (show s < L.length by omega)]
  · rw [List.getElem?_eq_none (by simp; omega), List.getElem?_eq_none (by omega)]; rfl
def RowsL (et rt o lo hi : Nat) (G : Nat → Obj) (D : List (List Lg)) : Prop := ∃ ws, ws.length = D.length ∧ G o = .row rt 1 ws false ∧ All2 (RowL et lo hi G) ws D
theorem RowsL.frame {et rt o lo hi lo' hi' : Nat} {G G' : Nat → Obj} {D : List (List Lg)} (h : RowsL et rt o lo hi G D) (ho : G' o = G o) (h0 : lo' ≤ lo) (hh : hi ≤ hi') (hG : ∀ o, lo ≤ o → o < hi → (∃ xs fr, G o = .row et 4 xs fr) → G' o = G o) : RowsL et rt o lo' hi' G' D := by
  obtain ⟨ws, h1, h2, h3⟩ := h
  exact ⟨ws, h1, by rw [ho]; exact h2, h3.imp fun a b h => h.frame h0 hh hG⟩
theorem All2.set {α β : Type} {R : α → β → Prop} {x : α} {y : β} (hxy : R x y) : ∀ {l : List α} {m : List β}, All2 R l m → ∀ i, All2 R (l.set i x) (m.set i y)
  | [], [], _, _ => trivial
  | [], _ :: _, h, _ => h.elim
  | _ :: _, [], h, _ => h.elim
  | _ :: _, _ :: _, h, 0 => ⟨hxy, h.2⟩
  | _ :: _, _ :: _, h, i + 1 => ⟨h.1, h.2.set hxy i⟩
theorem RowsL.set {et rt o lo hi : Nat} {G : Nat → Obj} {D : List (List Lg)} {v : AV} {l : List Lg} (h : RowsL et rt o lo hi G D) (hv : RowL et lo hi G v l) (d : Nat) : ∃ ws, ws.length = D.length ∧ G o = .row rt 1 ws false ∧ RowsL et rt o lo hi (upd G o (.row rt 1 (ws.set d v) false)) (D.set d l) := by
  obtain ⟨ws, h1, h2, h3⟩ := h
  refine ⟨ws, h1, h2, ws.set d v, by simp [h1], upd_same .., All2.imp (fun a b h => h.frame (Nat.le_refl _) (Nat.le_refl _) fun q hq1 hq2 ⟨xs, fr, hq⟩ => ?_) (h3.set hv d)⟩
  by_cases e : q = o
  · subst e; rw [h2] at hq; cases hq
  · exact upd_ne _ _ _ _ e
def lagsIV (l : List Lg) : IV := .lst (l.map Lg.iv)
theorem rowsL_rdx {et lo hi : Nat} {G : Nat → Obj} : ∀ {ws : List AV} {E : List (List Lg)}, All2 (RowL et lo hi G) ws E → All2 (Rdx 1 G fun _ => True) ws (E.map lagsIV)
  | [], [], _ => trivial
  | _ :: _, _ :: _, h => ⟨h.1.rdx.frame (fun _ _ => rfl) fun _ _ => trivial, rowsL_rdx h.2⟩
theorem RowsL.rdx {et rt o lo hi : Nat} {G : Nat → Obj} {E : List (List Lg)} (h : RowsL et rt o lo hi G E) : Rdx 2 G (fun _ => True) (.row o E.length) (.lst (E.map lagsIV)) := by
  obtain ⟨ws, h1, h2, h3⟩ := h
  exact Rdx.row h2 h1 (rowsL_rdx h3) trivial
def RowV (et lo hi : Nat) (G : Nat → Obj) (v : AV) (l : List Lg) : Prop := v = .imm (lagsIV l) ∨ RowL et lo hi G v l
def RowsV (et rt lo hi : Nat) (G : Nat → Obj) (v : AV) (D : List (List Lg)) : Prop := v = .imm (.lst (D.map lagsIV)) ∨ ∃ o, o < hi ∧ v = .row o D.length ∧ RowsL et rt o lo hi G D
theorem RowV.frame {et lo hi lo' hi' : Nat} {G G' : Nat → Obj} {v : AV} {l : List Lg} (h : RowV et lo hi G v l) (h0 : lo' ≤ lo) (hh : hi ≤ hi') (hG : ∀ o, lo ≤ o → o < hi → (∃ xs fr, G o = .row et 4 xs fr) → G' o = G o) : RowV et lo' hi' G' v l :=
  h.elim .inl fun h => .inr (h.frame h0 hh hG)
theorem RowsV.frame {et rt lo hi lo' hi' : Nat} {G G' : Nat → Obj} {v : AV} {D : List (List Lg)} (h : RowsV et rt lo hi G v D) (h0 : lo' ≤ lo) (hh : hi ≤ hi') (hG : ∀ o, o < hi → G' o = G o) : RowsV et rt lo' hi' G' v D :=
  h.elim .inl fun ⟨o, h1, h2, h3⟩ => .inr ⟨o, by omega, h2, h3.frame (hG o h1) h0 hh fun q _ hq _ => hG q hq⟩
theorem All2.at' {α β : Type} {R : α → β → Prop} {l : List α} {m : List β} (h : All2 R l m) {i : Nat} {y : β} (hy : m[i]? = some y) : ∃ x, l[(i : Int).toNat]? = some x ∧ R x y := by
  rw [Int.toNat_natCast]; exact h.at hy
def mixL (n j : Nat) (f g : Nat → Lg) : List Lg := (List.range n).map fun s => if s < j then f s else g s
section
variable {n j : Nat} {f g : Nat → Lg}
theorem mixL_len : (mixL n j f g).length = n := by simp [mixL]
theorem mixL_ivlen : (((mixL n j f g).map Lg.iv).map AV.imm).length = n := by simp [mixL]
theorem mixL_at {s : Nat} (hs : s < n) : (mixL n j f g)[s]? = some (if s < j then f s else g s) := by simp [mixL, hs]
theorem mixL_ivat (hj : j < n) : (((mixL n j f g).map Lg.iv).map AV.imm)[(j : Int).toNat]? = some (.imm (g j).iv) := by
  rw [Int.toNat_natCast, List.getElem?_map, List.getElem?_map, mixL_at hj, if_neg (Nat.lt_irrefl _)]; rfl
theorem mixL_ivat0 (hj : j < n) : (((mixL n 0 f g).map Lg.iv).map AV.imm)[(j : Int).toNat]? = some (.imm (g j).iv) := by
  rw [Int.toNat_natCast, List.getElem?_map, List.getElem?_map, mixL_at hj, if_neg (Nat.not_lt_zero _)]; rfl
theorem mixL_set (hj : j < n) : (((mixL n j f g).map Lg.iv).map AV.imm).set j (.imm (f j).iv) = ((mixL n (j + 1) f g).map Lg.iv).map AV.imm := by
  refine List.ext_getElem? fun s => ?_
  rw [List.getElem?_set]
  by_cases h : j = s
  · subst h
    rw [if_pos rfl, if_pos (by rw [mixL_ivlen]; exact hj), List.getElem?_map, List.getElem?_map, mixL_at hj, if_pos (Nat.lt_succ_self _)]; rfl
  · rw [if_neg h]
    simp only [List.getElem?_map]
    by_cases hs : s < n
    · rw [mixL_at hs, mixL_at hs]
      by_cases h1 : s < j
      · rw [if_pos h1, if_pos (by omega)]
      · rw [if_neg h1, if_neg (by omega)]
    · rw [List.getElem?_eq_none (by rw [mixL_len]; omega), List.getElem?_eq_none (by rw [mixL_len]; omega)]
theorem mixL_zero : mixL n 0 f g = (List.range n).map g := by simp [mixL]
theorem mixL_one {a : Lg} (hj : j < n) : (((mixL n 0 f fun _ => Lg.z).map Lg.iv).map AV.imm).set j (.imm a.iv) = (((List.range n).map fun s => if j = s then a else Lg.z).map Lg.iv).map AV.imm := by
  refine List.ext_getElem? fun s => ?_
  rw [List.getElem?_set]
  by_cases h : j = s
  · subst h
    rw [if_pos rfl, if_pos (by rw [mixL_ivlen]; exact hj)]
    simp [hj]
  · rw [if_neg h]
    simp only [List.getElem?_map]
    by_cases hs : s < n
    · rw [mixL_at hs, if_neg (Nat.not_lt_zero _)]
      simp [hs, h]
    · rw [List.getElem?_eq_none (by rw [mixL_len]; omega), List.getElem?_eq_none (by simp; omega)]
      rfl
theorem mixL_all : mixL n n f g = (List.range n).map f := by
  unfold mixL
  exact List.map_congr_left fun s hs => if_pos (List.mem_range.1 hs)
end
/-! What is read of rows, as data or in memory. -/
theorem look_hd {l : Env} {d : Nat} {v : AV} : lookO ((d, v) :: l) (.tmp d) = some v := by
  show look _ _ = _
  unfold look
  rw [Nat.beq_refl]
section
variable {nt : Nat} {ol r : List Oper} {base i : Nat} {l : Env} {G : Nat → Obj} {nx : Nat} {df : List (AV × List AV)} {pk : Pk} {Φ : Out → Prop} {fs : List Fp} {x y : Operand} {t et rt ty1 ty2 : TypeId} {pos1 pos2 : String} {af1 af2 : Array Edge} {d1 d2 lo hi s : Nat} {w : AV} {L : List Lg} {E : List (List Lg)} {k ke : TyI}
theorem lag_at (hr : RowV et lo hi G w L) (hs : s < L.length) [hk : TyIs CC t k] (ht : k.d = .sl et) [he : TyIs CC et ke] (hke : ke.d.isAgg = true ∧ ke.sz = 4) : ∃ a, (∀ l id, lookO l x = some w → lookO l y = some (.imm (.int .i64 s)) → OpV CC id l G nx df pk (.indexAddr t x y) a []) ∧
    ∀ l id, lookO l (.tmp d1) = some a → OpV CC id l G nx df pk (.load et (.tmp d1)) (.imm (L.getD s Lg.z).iv) [] := by
  have hg : L.getD s Lg.z = L[s] := by rw [List.getD_eq_getElem?_getD, List.getElem?_eq_getElem hs]; rfl
  rw [hg]
  rcases hr with rfl | ⟨o, fr, _, _, rfl, hG⟩
  · have hi : (L.map Lg.iv)[(s : Int).toNat]? = some L[s].iv := by rw [Int.toNat_natCast, List.getElem?_map, List.getElem?_eq_getElem hs]; rfl
    exact ⟨_, fun l id hx hy => O.addrX ht he hx hy (by omega) hi (by rw [hke.2]; rfl), fun l id hl => O.loadEA hke.1 hl hi (by rw [hke.2]; rfl)⟩
  · have hi : ((L.map Lg.iv).map AV.imm)[(s : Int).toNat]? = some (.imm L[s].iv) := by rw [Int.toNat_natCast, List.getElem?_map, List.getElem?_map, List.getElem?_eq_getElem hs]; rfl
    refine ⟨_, fun l id hx hy => O.addrRX ht he hx hy hG (by simp) (by omega) hke.2.symm, fun l id hl => ?_⟩
    have := O.loadRA (C := CC) (t := et) (us := L[s].iv.cells.map .imm) (id := id) (nx := nx) (df := df) (pk := pk) hl hG (by simp) hi (by rw [hke.2]; rfl) hke.1
    exact this
theorem row_at' (hr : RowsV et rt lo hi G w E) {s : Nat} (hL : E[s]? = some L) [hk : TyIs CC t k] (ht : k.d = .sl rt) [he : TyIs CC rt ke] (hke : ke.d.isAgg = false ∧ ke.sz = 1) : ∃ a v, RowV et lo hi G v L ∧ (∀ l id, lookO l x = some w → lookO l y = some (.imm (.int .i64 s)) → OpV CC id l G nx df pk (.indexAddr t x y) a []) ∧
    ∀ l id, lookO l (.tmp d1) = some a → OpV CC id l G nx df pk (.load rt (.tmp d1)) v [] := by
  have hs := (List.getElem?_eq_some_iff.1 hL).1
  rcases hr with rfl | ⟨o, _, rfl, ws, h1, hG, h2⟩
  · have hi : (E.map lagsIV)[(s : Int).toNat]? = some (lagsIV L) := by rw [Int.toNat_natCast, List.getElem?_map, hL]; rfl
    exact ⟨_, _, .inl rfl, fun l id hx hy => O.addrX ht he hx hy (by omega) hi (by rw [hke.2]; rfl), fun l id hl => O.load1 hl hi rfl hke.1 hke.2⟩
  · obtain ⟨v, hv, hrow⟩ := h2.at' hL
    exact ⟨_, v, .inr hrow, fun l id hx hy => O.addrRX ht he hx hy hG h1 (by omega) hke.2.symm, fun l id hl => O.loadRX hl hG h1 hv (by obtain ⟨_, _, _, _, rfl, _⟩ := hrow; rfl) hke.1 hke.2⟩
theorem rd_load {a : AV} (h : lookO l (.tmp d1) = some a) : rdE l G (.load t (.tmp d1)) = some (direct a) := by
  unfold rdE; simp only [pureOp, h]
theorem rd_index {a b : AV} (hx : lookO l x = some a) (hy : lookO l y = some b) : rdE l G (.indexAddr t x y) = some (direct a ++ direct b) := by
  unfold rdE; simp only [pureOp, hx, hy]
theorem D.lagAt (hr : RowV et lo hi G w L) (hs : s < L.length) [hk : TyIs CC t k] (ht : k.d = .sl et) [he : TyIs CC et ke] (hke : ke.d.isAgg = true ∧ ke.sz = 4) (hx : lookO l x = some w) (hy : lookO l y = some (.imm (.int .i64 s))) (hd1 : Nat.ble (d1 + 1) nt = true) (hd2 : Nat.ble (d2 + 1) nt = true)
    (next : ∀ a rd1 rd2, D CC nt ol base (i + 1 + 1) r ((d2, .imm (L.getD s Lg.z).iv) :: (d1, a) :: l) G nx df pk (⟨i + 1, rd2, [], []⟩ :: ⟨i, rd1, [], []⟩ :: fs) Φ) :
    D CC nt ol base i (⟨some d1, .indexAddr t x y, ty1, pos1, af1, none⟩ :: ⟨some d2, .load et (.tmp d1), ty2, pos2, af2, none⟩ :: r) l G nx df pk fs Φ := by
  obtain ⟨a, h1, h2⟩ := lag_at (t := t) (nx := nx) (df := df) (pk := pk) (x := x) (y := y) (d1 := d1) hr hs ht hke
  exact D.op0 (h1 l _ hx hy) (rd_index hx hy) hd1 (D.op0 (h2 _ _ look_hd) (rd_load look_hd) hd2 (next _ _ _))
theorem R.lagAt (hr : RowV et lo hi G w L) (hs : s < L.length) [hk : TyIs CC t k] (ht : k.d = .sl et) [he : TyIs CC et ke] (hke : ke.d.isAgg = true ∧ ke.sz = 4) (hx : lookO l x = some w) (hy : lookO l y = some (.imm (.int .i64 s))) (hd1 : Nat.ble (d1 + 1) nt = true) (hd2 : Nat.ble (d2 + 1) nt = true)
    (next : ∀ a, R CC nt ol base (i + 1 + 1) r ((d2, .imm (L.getD s Lg.z).iv) :: (d1, a) :: l) G nx df pk Φ) :
    R CC nt ol base i (⟨some d1, .indexAddr t x y, ty1, pos1, af1, none⟩ :: ⟨some d2, .load et (.tmp d1), ty2, pos2, af2, none⟩ :: r) l G nx df pk Φ := by
  obtain ⟨a, h1, h2⟩ := lag_at (t := t) (nx := nx) (df := df) (pk := pk) (x := x) (y := y) (d1 := d1) hr hs ht hke
  exact R.op0 (h1 l _ hx hy) hd1 (R.op0 (h2 _ _ look_hd) hd2 (next _))
theorem D.rowAt (hr : RowsV et rt lo hi G w E) (hL : E[s]? = some L) [hk : TyIs CC t k] (ht : k.d = .sl rt) [he : TyIs CC rt ke] (hke : ke.d.isAgg = false ∧ ke.sz = 1) (hx : lookO l x = some w) (hy : lookO l y = some (.imm (.int .i64 s))) (hd1 : Nat.ble (d1 + 1) nt = true) (hd2 : Nat.ble (d2 + 1) nt = true)
    (next : ∀ a v rd1 rd2, RowV et lo hi G v L → D CC nt ol base (i + 1 + 1) r ((d2, v) :: (d1, a) :: l) G nx df pk (⟨i + 1, rd2, [], []⟩ :: ⟨i, rd1, [], []⟩ :: fs) Φ) :
    D CC nt ol base i (⟨some d1, .indexAddr t x y, ty1, pos1, af1, none⟩ :: ⟨some d2, .load rt (.tmp d1), ty2, pos2, af2, none⟩ :: r) l G nx df pk fs Φ := by
  obtain ⟨a, v, h0, h1, h2⟩ := row_at' (t := t) (nx := nx) (df := df) (pk := pk) (x := x) (y := y) (d1 := d1) hr hL ht hke
  exact D.op0 (h1 l _ hx hy) (rd_index hx hy) hd1 (D.op0 (h2 _ _ look_hd) (rd_load look_hd) hd2 (next _ _ _ _ h0))
end
theorem O.makeL {id : Nat} {l : Env} {G : Nat → Obj} {nx : Nat} {df : List (AV × List AV)} {pk : Pk} {t e : TypeId} {x y : Operand} {k ke : TyI} {m : Int} {n : Nat} (f : Nat → Lg) [hk : TyIs CC t k] (ht : k.d = .sl e) (he : TyIs CC e ke) (hke : ke.zero = .imm Lg.z.iv ∧ ke.sz = 4 ∧ ke.bytes ≤ 4096) (hx : lookO l x = some (.imm (.int .i64 m))) (hy : lookO l y = some (.imm (.int .i64 m))) (hm : m = (n : Int)) (hn : n ≤ 1000) :
    OpV CC id l G nx df pk (.makeSlice t x y) (.row id n) [(id, .set (.row e 4 (((mixL n 0 f fun _ => Lg.z).map Lg.iv).map .imm) false))] := by
  have h := O.makeSlice (C := CC) (t := t) (e := e) (id := id) (G := G) (nx := nx) (df := df) (pk := pk) ht he hx hy ⟨by omega, Int.le_refl _, by unfold most; omega⟩ hke.2.2 (by rw [hke.1, hke.2.1]; rfl) (by rw [hke.2.1]; decide)
  rw [hke.1, hke.2.1, hm, Int.toNat_natCast] at h
  rw [mixL_zero, show ((List.range n).map fun _ => Lg.z) = List.replicate n Lg.z from by rw [List.map_const', List.length_range], List.map_replicate, List.map_replicate]
  exact h
end Go.Abs

/- How far lags go; the lags of all definitions. -/
open Go Go.Abs
namespace Go.Abs
set_option maxRecDepth 100000
theorem Lg.In.mono {K L : Int} {a : Lg} (h : a.In K) (hk : K ≤ L) : a.In L := ⟨⟨by have := h.back; omega, by have := h.back; omega⟩, ⟨by have := h.ahead; omega, by have := h.ahead; omega⟩⟩
theorem Lg.inz {K : Int} (h : 0 ≤ K) : Lg.z.In K := ⟨⟨by show -K ≤ (0 : Int); omega, h⟩, ⟨by show -K ≤ (0 : Int); omega, h⟩⟩
theorem Lg.In.both {K : Int} {a b : Lg} (ha : a.In K) (hb : b.In K) : (a.both b).In K := by
  unfold Lg.both
  split
  · split
    · refine ⟨?_, ?_⟩
      · show -K ≤ (if (a.ever || b.ever) = true then (0 : Int) else mxI a.back b.back) ∧ (if (a.ever || b.ever) = true then (0 : Int) else mxI a.back b.back) ≤ K
        have := ha.back; have := hb.back
        split
        · omega
        · rw [mxI_eq]; omega
      · show -K ≤ mxI a.ahead b.ahead ∧ mxI a.ahead b.ahead ≤ K
        have := ha.ahead; have := hb.ahead
        rw [mxI_eq]; omega
    · exact ha
  · exact hb
theorem Lg.In.thru {K M : Int} {a : Lg} (h : a.In K) {ev : Bool} {bk ah : Int} (hb : -M ≤ bk ∧ bk ≤ M) (ha : -M ≤ ah ∧ ah ≤ M) : (a.thru ev bk ah).In (K + M) := by
  unfold Lg.thru
  split
  · refine ⟨?_, ?_⟩
    · show -(K + M) ≤ (if (a.ever || ev) = true then (0 : Int) else a.back + bk) ∧ (if (a.ever || ev) = true then (0 : Int) else a.back + bk) ≤ K + M
      have := h.back
      split <;> omega
    · show -(K + M) ≤ a.ahead + ah ∧ a.ahead + ah ≤ K + M
      have := h.ahead; omega
  · exact h.mono (by omega)
structure NodeB (x : Exp) : Prop where
  n : -50 ≤ x.n ∧ x.n ≤ 50
  kids : x.kids.length ≤ 2
  op : 1 ≤ x.op ∧ x.op ≤ 15
theorem Lg.In.kid {K : Int} {a : Lg} (h : a.In K) {op n : Int} (hn : -50 ≤ n ∧ n ≤ 50) {i : Nat} (hi : i ≤ 1) : (kidL op n i a).In (K + 64) := by
  have hi' : (i : Int) = 0 ∨ (i : Int) = 1 := by omega
  unfold kidL
  repeat' split
  · exact h.thru (by omega) (by omega)
  · exact h.thru (by omega) (by omega)
  · exact h.thru (by omega) (by omega)
  · exact h.thru (by omega) (by omega)
  · exact h.thru (by omega) (by omega)
  · rcases hi' with e | e
    · rw [e, Int.mul_zero]; exact h.thru (by omega) (by omega)
    · rw [e, Int.mul_one]; exact h.thru (by omega) (by omega)
  · exact h.mono (by omega)
mutual
theorem expG_in (srcs names : List Str) {v : Nat → Lg} {K : Int} (hK : 0 ≤ K) (hv : ∀ d, (v d).In K) (s : Nat) : ∀ e, (∀ x ∈ allE e, NodeB x) → (expG srcs names v s e).In (K + 64 * ((allE e).length : Int))
  | .mk op name n fold calcs kids, h => by
    have hb := h (.mk op name n fold calcs kids) (by rw [allE]; exact List.mem_cons_self ..)
    have hn : -50 ≤ n ∧ n ≤ 50 := hb.n
    rw [expG, allE, List.length_cons]
    split
    · split
      · exact ⟨⟨by show -_ ≤ (0 : Int); omega, by show (0 : Int) ≤ _; omega⟩, ⟨by show -_ ≤ (0 : Int); omega, by show (0 : Int) ≤ _; omega⟩⟩
      · exact Lg.inz (by omega)
    · split
      · exact ((hv _).thru (M := 64) (by omega) (by omega)).mono (by omega)
      · refine (kidsG_in srcs names hK hv s op n hn kids 0 Lg.z (allEs kids).length (by have : kids.length ≤ 2 := hb.kids; omega) (Nat.le_refl _) (fun x hx => h x (by rw [allE]; exact List.mem_cons_of_mem _ hx)) (Lg.inz (by omega))).mono (by omega)
theorem kidsG_in (srcs names : List Str) {v : Nat → Lg} {K : Int} (hK : 0 ≤ K) (hv : ∀ d, (v d).In K) (s : Nat) (op n : Int) (hn : -50 ≤ n ∧ n ≤ 50) : ∀ (l : List Exp) (i : Nat) (out : Lg) (N : Nat), i + l.length ≤ 2 → (allEs l).length ≤ N → (∀ x ∈ allEs l, NodeB x) → out.In (K + 64 * ((N : Int) + 1)) → (kidsG srcs names v s op n l i out).In (K + 64 * ((N : Int) + 1))
  | [], _, _, _, _, _, _, h => h
  | x :: r, i, out, N, hi, hN, hx, h => by
    rw [kidsG]
    rw [allEs, List.length_append] at hN
    rw [List.length_cons] at hi
    have h1 := expG_in srcs names hK hv s x fun y hy => hx y (by rw [allEs]; exact List.mem_append_left _ hy)
    refine kidsG_in srcs names hK hv s op n hn r (i + 1) _ N (by omega) (by omega) (fun y hy => hx y (by rw [allEs]; exact List.mem_append_right _ hy)) (h.both ?_)
    exact (h1.kid hn (by omega)).mono (by omega)
end
def InL (K : Int) (D : List (List Lg)) : Prop := ∀ r ∈ D, ∀ a ∈ r, a.In K
theorem InL.mono {K L : Int} {D : List (List Lg)} (h : InL K D) (hk : K ≤ L) : InL L D := fun r hr a ha => (h r hr a ha).mono hk
theorem InL.col {K : Int} {D : List (List Lg)} (hK : 0 ≤ K) (h : InL K D) (s d : Nat) : (colD D s d).In K := by
  unfold colD
  rw [List.getD_eq_getElem?_getD, List.getD_eq_getElem?_getD]
  cases hd : D[d]? with
  | none => exact Lg.inz hK
  | some r =>
    simp only [Option.getD_some]
    cases hs : r[s]? with
    | none => exact Lg.inz hK
    | some a => exact h r (List.mem_of_getElem? hd) a (List.mem_of_getElem? hs)
structure Small (p : Pgm) : Prop where
  len : p.defs.length ≤ 6
  srcs : p.srcs.length ≤ 4
  cnt : ∀ d, (allE (expAt p d)).length ≤ 1000
  node : ∀ d, d < p.defs.length → ∀ x ∈ allE (expAt p d), NodeB x
theorem allL_in {p : Pgm} {K : Int} (hK : 0 ≤ K) {D : List (List Lg)} (h : InL K D) {e : Exp} (hn : ∀ x ∈ allE e, NodeB x) (hc : (allE e).length ≤ 1000) : ∀ a ∈ allL p D e, a.In (K + 64000) := fun a ha => by
  unfold allL at ha
  obtain ⟨s, _, rfl⟩ := List.mem_map.1 ha
  exact (expG_in _ _ hK (h.col hK s) s e hn).mono (by omega)
theorem rowL_in {p : Pgm} (hp : Small p) {K : Int} (hK : 0 ≤ K) {D : List (List Lg)} (h : InL K D) (ring : Bool) {d : Nat} (hd : d < p.defs.length) : ∀ a ∈ rowL p ring D d, a.In (K + 64000) := fun a ha => by
  unfold rowL at ha
  obtain ⟨b, hb, rfl⟩ := List.mem_map.1 ha
  have h1 := allL_in hK h (hp.node d hd) (hp.cnt d) b hb
  unfold ringL
  split
  · exact (h1.thru (M := 0) (by omega) (by omega)).mono (by omega)
  · exact h1
theorem InL.set {p : Pgm} (hp : Small p) {K : Int} (hK : 0 ≤ K) {D : List (List Lg)} (h : InL K D) (ring : Bool) {d : Nat} (hd : d < p.defs.length) : InL (K + 64000) (setL p ring D d) := fun r hr => by
  rcases List.mem_or_eq_of_mem_set hr with hr | rfl
  · exact fun a ha => (h r hr a ha).mono (by omega)
  · exact rowL_in hp hK h ring hd
theorem InL.rnd {p : Pgm} (hp : Small p) {ring : Bool} : ∀ (g : List Nat) {K : Int}, 0 ≤ K → ∀ {D : List (List Lg)}, InL K D → (∀ d ∈ g, d < p.defs.length) → InL (K + 64000 * g.length) (rndL p ring g D)
  | [], K, _, D, h, _ => h.mono (by simp only [List.length_nil]; omega)
  | d :: g, K, hK, D, h, hg => by
    have := InL.rnd hp (ring := ring) g (by omega) (h.set hp hK ring (hg d (List.mem_cons_self ..))) fun x hx => hg x (List.mem_cons_of_mem _ hx)
    exact this.mono (by rw [List.length_cons]; omega)
theorem InL.rnds {p : Pgm} (hp : Small p) {ring : Bool} {g : List Nat} (hl : g.length ≤ 6) {K : Int} (hK : 0 ≤ K) {D : List (List Lg)} (h : InL K D) (hg : ∀ d ∈ g, d < p.defs.length) : ∀ n : Nat, InL (K + 384000 * n) (rndsL p ring g n D)
  | 0 => h.mono (by omega)
  | n + 1 => ((h.rnds hp hl hK hg n).rnd hp g (by omega) hg).mono (by omega)
noncomputable def ringB (tos : List (List Nat)) (g : List Nat) : Bool := match g with
  | d :: _ => reachB tos d d
  | [] => false
def zeroL (p : Pgm) : List (List Lg) := List.replicate p.defs.length (List.replicate p.srcs.length Lg.z)
noncomputable def lagsTo (p : Pgm) (gs : List (List Nat)) : List (List Lg) := gs.foldl (fun D g => rndsL p (ringB (tosR p) g) g (p.defs.length + 1) D) (zeroL p)
noncomputable def lagsR (p : Pgm) : List (List Lg) := lagsTo p (orderR (tosR p))
theorem Wide.zero (p : Pgm) : Wide p (zeroL p) where
  len := List.length_replicate ..
  row := fun r hr => by rw [List.eq_of_mem_replicate hr]; exact List.length_replicate ..
  ok := fun r hr a ha => by rw [List.eq_of_mem_replicate hr] at ha; rw [List.eq_of_mem_replicate ha]; exact Lg.okz
theorem colD_zero (p : Pgm) (s d : Nat) : colD (zeroL p) s d = Lg.z := by
  unfold colD zeroL
  rw [List.getD_eq_getElem?_getD, List.getD_eq_getElem?_getD, List.getElem?_replicate]
  split
  · simp only [Option.getD_some, List.getElem?_replicate]; split <;> rfl
  · rfl
theorem colD_rnd {p : Pgm} {ring : Bool} {d : Nat} : ∀ (g : List Nat) {D : List (List Lg)}, d ∉ g → ∀ s, colD (rndL p ring g D) s d = colD D s d
  | [], _, _, _ => rfl
  | x :: g, D, h, s => by
    rw [show rndL p ring (x :: g) D = rndL p ring g (setL p ring D x) from rfl, colD_rnd g (fun hc => h (List.mem_cons_of_mem _ hc))]
    unfold colD setL
    rw [List.getD_eq_getElem?_getD (l := D.set x _), List.getElem?_set_ne (fun e => by subst e; exact h (List.mem_cons_self ..)), ← List.getD_eq_getElem?_getD]
theorem colD_rnds {p : Pgm} {ring : Bool} {d : Nat} {g : List Nat} (h : d ∉ g) {D : List (List Lg)} (s : Nat) : ∀ n, colD (rndsL p ring g n D) s d = colD D s d
  | 0 => rfl
  | n + 1 => by rw [rndsL, colD_rnd g h, colD_rnds h s n]
structure SoFar (p : Pgm) (gs : List (List Nat)) (D : List (List Lg)) : Prop where
  wide : Wide p D
  low : InL (2688000 * gs.length) D
  rest : ∀ d, d ∉ gs.flatten → ∀ s, colD D s d = Lg.z
theorem SoFar.zero (p : Pgm) : SoFar p [] (zeroL p) where
  wide := Wide.zero p
  low := fun r hr a ha => by
    have hr := List.eq_of_mem_replicate hr
    subst hr
    rw [List.eq_of_mem_replicate ha]
    exact Lg.inz (by simp)
  rest := fun d _ s => colD_zero p s d
theorem SoFar.step {p : Pgm} (hp : Small p) {gs : List (List Nat)} {D : List (List Lg)} (h : SoFar p gs D) {g : List Nat} (hl : g.length ≤ 6) (hg : ∀ d ∈ g, d < p.defs.length) {ring : Bool} {n : Nat} (hn : n ≤ 7) : SoFar p (gs ++ [g]) (rndsL p ring g n D) where
  wide := h.wide.rnds ring g n
  low := (h.low.rnds hp hl (by omega) hg n).mono (by simp only [List.length_append, List.length_cons, List.length_nil]; omega)
  rest := fun d hd s => by
    rw [List.flatten_append, List.mem_append] at hd
    rw [colD_rnds (fun hc => hd (.inr (by simpa using hc))) s n]
    exact h.rest d (fun hc => hd (.inl hc)) s
theorem lagsTo_append (p : Pgm) (gs : List (List Nat)) (g : List Nat) : lagsTo p (gs ++ [g]) = rndsL p (ringB (tosR p) g) g (p.defs.length + 1) (lagsTo p gs) := by
  unfold lagsTo
  rw [List.foldl_append]; rfl
theorem lagsTo_far {p : Pgm} (hp : Small p) : ∀ (gs hs : List (List Nat)), (∀ g ∈ gs, g.length ≤ 6 ∧ ∀ d ∈ g, d < p.defs.length) → ∀ {D : List (List Lg)}, SoFar p hs D → SoFar p (hs ++ gs) (gs.foldl (fun D g => rndsL p (ringB (tosR p) g) g (p.defs.length + 1) D) D)
  | [], hs, _, D, h => by rw [List.append_nil]; exact h
  | g :: gs, hs, hg, D, h => by
    have h1 := hg g (List.mem_cons_self ..)
    have := lagsTo_far hp gs (hs ++ [g]) (fun x hx => hg x (List.mem_cons_of_mem _ hx)) (h.step hp h1.1 h1.2 (ring := ringB (tosR p) g) (n := p.defs.length + 1) (by have := hp.len; omega))
    rw [List.append_assoc] at this
    exact this
end Go.Abs

/- Whether a list of numbers holds one of a kind, asked by reference. -/
open Go Go.Abs
namespace Go.Abs
set_option maxRecDepth 100000
set_option maxHeartbeats 4000000
instance fnis484 : FnIs CC 184 := ⟨rfl, fun _ => rfl⟩
instance fnis438 : FnIs CC 138 := ⟨rfl, fun _ => rfl⟩
theorem ret484 {l : List Nat} (hl : l.length ≤ 1000) (k : Nat) : ∃ z : Int, Ret CC 184 [natsIV l, natIV k] (.int .i64 z) ∧ decide (z ≥ 0) = l.contains k := by
  have hlm : (l.map natIV).length = l.length := List.length_map ..
  refine ⟨match l.findIdx? (fun x => x == k) with | some i => (i : Int) | none => -1, ?_, ?_⟩
  · refine Ret.of (fn := Go.Proofs.Tryz.f184) (by kernel_rfl) rfl rfl ?_
    refine BB ?_
    refine W.loop (X := Nat) (fun i => [(0, .imm (natsIV l)), (1, .imm (natIV k)), (6, .imm (natsIV l)), (7, .imm (.int .i64 (l.map natIV).length)), (8, .imm (.int .i64 i))])
      (fun i nx1 G1 => i ≤ l.length ∧ ∀ j, j < i → ∀ x, l[j]? = some x → (x == k) = false) (fun i => l.length - i) 0 .auto ⟨Nat.zero_le _, fun j h => absurd h (Nat.not_lt_zero j)⟩ ?_
    rintro i nx1 G1 ⟨hi, hno⟩
    refine BB ?_
    refine W.cond rfl (fun h1 => ?_) (fun h1 => ?_)
    · have hlt : i < l.length := by have := of_decide_eq_true h1; rw [hlm] at this; omega
      obtain ⟨x, hx⟩ := at_lt hlt
      have hxi := at_map natIV hx
      have hmu : l.length - (i + 1) < l.length - i := by omega
      cases hp : ((k : Int) == (x : Int)) with
      | false =>
        refine BB ?_
        refine W.skipLop (i + 1) hmu .auto ⟨hlt, fun j hj y hy => ?_⟩
        rcases Nat.lt_or_eq_of_le (Nat.le_of_lt_succ hj) with hj | rfl
        · exact hno j hj y hy
        · rw [hx] at hy; cases hy
          simp only [beq_eq_false_iff_ne, ne_eq] at hp ⊢; omega
      | true =>
        have : l.findIdx? (fun x => x == k) = some i := by
          rw [List.findIdx?_eq_some_iff_getElem]
          refine ⟨hlt, ?_, fun j hj => ?_⟩
          · have h2 := (List.getElem?_eq_some_iff.1 hx).2
            simp only [beq_iff_eq] at hp ⊢
            rw [h2]; omega
          · have := hno j hj l[j] (List.getElem?_eq_getElem _)
            simpa using this
        rw [this]
        refine BB ?_
        exact W.retFin1 rfl ⟨[], rfl⟩
    · have hge : l.length ≤ i := by have := of_decide_eq_false h1; rw [hlm] at this; omega
      have : l.findIdx? (fun x => x == k) = none := by
        rw [List.findIdx?_eq_none_iff]
        intro x hx
        obtain ⟨j, hj⟩ := List.mem_iff_getElem?.1 hx
        exact hno j (by have := (List.getElem?_eq_some_iff.1 hj).1; omega) x hj
      rw [this]
      refine BB ?_
      exact W.retFin1 rfl ⟨[], rfl⟩
  · cases h : l.findIdx? (fun x => x == k) with
    | none =>
      rw [List.findIdx?_eq_none_iff] at h
      have : l.contains k = false := by
        rw [List.contains_eq_mem, decide_eq_false_iff_not]
        intro hc
        have := h k hc
        simp at this
      rw [this]; rfl
    | some i =>
      obtain ⟨h1, h2, _⟩ := List.findIdx?_eq_some_iff_getElem.1 h
      have : l.contains k = true := by
        rw [List.contains_iff_mem]
        simp only [beq_iff_eq] at h2
        exact h2 ▸ List.getElem_mem h1
      rw [this]
      exact decide_eq_true (by show (0 : Int) ≤ (i : Int); omega)
theorem ret438 {l : List Nat} (hl : l.length ≤ 1000) (k : Nat) : Ret CC 138 [natsIV l, natIV k] (.bool (l.contains k)) := by
  obtain ⟨z, h1, h2⟩ := ret484 hl k
  refine Ret.of (fn := Go.Proofs.Tryz.f138) (by kernel_rfl) rfl rfl ?_
  refine BB ?_
  refine W.retFin1 rfl ⟨[], ?_⟩
  rw [← h2]; rfl
section
variable {f : FuncId} {cap : List AV} {P : Nat → Bool} {K : (Nat → Obj) → Nat → Prop}
theorem cal457 (hb : CC.byref f = true) (hK : ∀ G nx nx', K G nx → nx ≤ nx' → K G nx') {l : List Nat} (hl : l.length ≤ 1000) (hf : ∀ x ∈ l, ∀ G nx, K G nx → Cal CC f ([.imm (natIV x)] ++ cap) G nx fun v G' nx' => v = .imm (.bool (P x)) ∧ K G' nx') {G : Nat → Obj} {nx : Nat} (h0 : K G nx) :
    Cal CC 157 [.imm (natsIV l), .fn (.func f) cap] G nx fun v G' nx' => ∃ z : Int, v = .imm (.int .i64 z) ∧ decide (z ≥ 0) = l.any P ∧ K G' nx' := by
  have hlm : (l.map natIV).length = l.length := List.length_map ..
  refine Cal.of (fn := Go.Proofs.Tryz.f157) (by kernel_rfl) rfl rfl ?_
  refine BN ?_
  refine W.loop (X := Nat) (fun i => [(0, .imm (natsIV l)), (1, .fn (.func f) cap), (6, .imm (natsIV l)), (7, .imm (.int .i64 (l.map natIV).length)), (8, .imm (.int .i64 i))])
    (fun i nx1 G1 => i ≤ l.length ∧ K G1 nx1 ∧ (l.take i).any P = false) (fun i => l.length - i) 0 .auto ⟨Nat.zero_le _, hK _ _ _ h0 (by omega), rfl⟩ ?_
  clear h0
  rintro i nx1 G1 ⟨hi, hI, hno⟩
  refine BN ?_
  refine W.cond rfl (fun h1 => ?_) (fun h1 => ?_)
  · have hlt : i < l.length := by have := of_decide_eq_true h1; rw [hlm] at this; omega
    obtain ⟨x, hx⟩ := at_lt hlt
    have hxi := at_map natIV hx
    have hcal := fun nx2 (h : nx1 ≤ nx2) => hf x (List.mem_of_getElem? hx) G1 nx2 (hK _ _ _ hI h)
    have hmu : l.length - (i + 1) < l.length - i := by omega
    have htk : (l.take (i + 1)).any P = P x := by rw [List.take_add_one, hx, List.any_append, hno]; simp
    refine BN ?_
    refine R.callB rfl rfl hb rfl rfl ((hcal _ (by omega)).mono fun v G' nx' hv => ?_)
    obtain ⟨rfl, h2⟩ := hv
    cases hp : P x with
    | false =>
      refine BN ?_
      exact W.skipLop (i + 1) hmu .auto ⟨hlt, hK _ _ _ h2 (by omega), by rw [htk, hp]⟩
    | true =>
      refine BN ?_
      refine W.retFin1 rfl ⟨_, rfl, ?_, hK _ _ _ h2 (by omega)⟩
      rw [decide_eq_true (by omega)]
      exact (List.any_eq_true.2 ⟨x, List.mem_of_getElem? hx, hp⟩).symm
  · have hge : l.length ≤ i := by have := of_decide_eq_false h1; rw [hlm] at this; omega
    rw [List.take_of_length_le hge] at hno
    refine BN ?_
    exact W.retFin1 rfl ⟨-1, rfl, by rw [hno]; rfl, hK _ _ _ hI (by omega)⟩
theorem cal386 (hb : CC.byref f = true) (hK : ∀ G nx nx', K G nx → nx ≤ nx' → K G nx') {l : List Nat} (hl : l.length ≤ 1000) (hf : ∀ x ∈ l, ∀ G nx, K G nx → Cal CC f ([.imm (natIV x)] ++ cap) G nx fun v G' nx' => v = .imm (.bool (P x)) ∧ K G' nx') {G : Nat → Obj} {nx : Nat} (h0 : K G nx) :
    Cal CC 86 [.imm (natsIV l), .fn (.func f) cap] G nx fun v G' nx' => v = .imm (.bool (l.any P)) ∧ K G' nx' := by
  have hc := fun nx1 (h : nx ≤ nx1) => cal457 hb hK hl hf (hK _ _ nx1 h0 h)
  refine Cal.of (fn := Go.Proofs.Tryz.f86) (by kernel_rfl) rfl rfl ?_
  refine BN ?_
  refine R.callB rfl rfl rfl rfl rfl ((hc _ (by omega)).mono fun v G' nx' hv => ?_)
  obtain ⟨z, rfl, h1, h2⟩ := hv
  refine BN ?_
  refine W.retFin1 rfl ⟨?_, hK _ _ _ h2 (by omega)⟩
  rw [← h1]
end
end Go.Abs

/- Sorted numbers of a set. (No program in sight.) -/
open Go Go.Abs
namespace Go.Abs
theorem slt_ext : ∀ {a b : List Int}, a.Pairwise (· < ·) → b.Pairwise (· < ·) → (∀ x, x ∈ a ↔ x ∈ b) → a = b
  | [], [], _, _, _ => rfl
  | [], y :: s, _, _, h => absurd ((h y).2 (by simp)) (by simp)
  | x :: r, [], _, _, h => absurd ((h x).1 (by simp)) (by simp)
  | x :: r, y :: s, ha, hb, h => by
    rw [List.pairwise_cons] at ha hb
    have hxy : x = y := by
      have h1 := (h x).1 (by simp)
      have h2 := (h y).2 (by simp)
      rcases List.mem_cons.1 h1 with h1 | h1
      · exact h1
      · rcases List.mem_cons.1 h2 with h2 | h2
        · exact h2.symm
        · have := ha.1 y h2
          have := hb.1 x h1
          omega
    subst hxy
    rw [slt_ext ha.2 hb.2 fun z => ?_]
    constructor
    · intro hz
      have := ha.1 z hz
      rcases List.mem_cons.1 ((h z).1 (by simp [hz])) with h1 | h1
      · omega
      · exact h1
    · intro hz
      have := hb.1 z hz
      rcases List.mem_cons.1 ((h z).2 (by simp [hz])) with h1 | h1
      · omega
      · exact h1
theorem ins_mem {x z : Int} : ∀ {l : List Int}, z ∈ ins x l ↔ z = x ∨ z ∈ l
  | [] => by simp [ins]
  | y :: r => by
    unfold ins
    split
    · simp
    · simp only [List.mem_cons, ins_mem (l := r)]
      constructor
      · rintro (h | h | h) <;> simp [h]
      · rintro (h | h | h) <;> simp [h]
theorem isort_mem {z : Int} : ∀ {l : List Int}, z ∈ isort l ↔ z ∈ l
  | [] => by simp [isort]
  | x :: r => by rw [isort, ins_mem, isort_mem, List.mem_cons]
theorem ins_slt {x : Int} : ∀ {l : List Int}, l.Pairwise (· < ·) → x ∉ l → (ins x l).Pairwise (· < ·)
  | [], _, _ => by simp [ins]
  | y :: r, h, hx => by
    have hne : x ≠ y := fun e => hx (by simp [e])
    have hr : x ∉ r := fun e => hx (by simp [e])
    unfold ins
    rw [List.pairwise_cons] at h
    split
    · rename_i hle
      rw [List.pairwise_cons, List.pairwise_cons]
      refine ⟨fun z hz => ?_, h⟩
      rcases List.mem_cons.1 hz with rfl | hz
      · omega
      · have := h.1 z hz; omega
    · rename_i hle
      rw [List.pairwise_cons]
      refine ⟨fun z hz => ?_, ins_slt h.2 hr⟩
      rcases ins_mem.1 hz with rfl | hz
      · omega
      · exact h.1 z hz
theorem isort_slt : ∀ {l : List Int}, l.Nodup → (isort l).Pairwise (· < ·)
  | [], _ => by simp [isort]
  | x :: r, h => by
    rw [List.nodup_cons] at h
    exact ins_slt (isort_slt h.2) fun e => h.1 (isort_mem.1 e)
theorem ints_nats (l : List Nat) : ints (l.map natIV) = l.map Int.ofNat := by
  induction l with
  | nil => rfl
  | cons x r ih =>
    rw [List.map_cons, List.map_cons, ← ih]; rfl
theorem sorted_eq {out : List Nat} {n : Nat} {P : Nat → Bool} (hn : out.Nodup) (hb : ∀ x ∈ out, x < n) (hP : ∀ x, x < n → (P x = true ↔ x ∈ out)) : (isort (ints (out.map natIV))).map (IV.int .i64) = ((List.range n).filter P).map natIV := by
  have key : isort (ints (out.map natIV)) = ((List.range n).filter P).map Int.ofNat := by
    rw [ints_nats]
    refine slt_ext (isort_slt ?_) ?_ fun z => ?_
    · rw [List.Nodup, List.pairwise_map]
      exact hn.imp fun h e => h (Int.ofNat.inj e)
    · rw [List.pairwise_map]
      refine (List.Pairwise.filter _ List.pairwise_lt_range).imp fun h => ?_
      exact Int.ofNat_lt.2 h
    · rw [isort_mem, List.mem_map, List.mem_map]
      constructor
      · rintro ⟨x, hx, rfl⟩
        exact ⟨x, List.mem_filter.2 ⟨List.mem_range.2 (hb x hx), (hP x (hb x hx)).2 hx⟩, rfl⟩
      · rintro ⟨x, hx, rfl⟩
        rw [List.mem_filter, List.mem_range] at hx
        exact ⟨x, (hP x hx.1).1 hx.2, rfl⟩
  rw [key, List.map_map]
  rfl
theorem natKeys_int (l : List Nat) : (l.map natIV).all isIntIV = true := by
  induction l with
  | nil => rfl
  | cons x r ih => rw [List.map_cons, List.all_cons, ih]; rfl
end Go.Abs

/- Lists of numbers: comparing what is the same; the numbers of what is true. -/
open Go Go.Abs
namespace Go.Abs
set_option maxRecDepth 100000
set_option maxHeartbeats 4000000
instance fnis19 : FnIs CC 38 := ⟨rfl, fun _ => rfl⟩
end Go.Abs

/- The reference: on which sources a definition depends. -/
open Go Go.Abs
namespace Go.Abs
set_option maxRecDepth 100000
set_option maxHeartbeats 4000000
mutual
theorem expR_src (srcs defs : List Str) (ahead : Nat) : ∀ (e : Exp) (depth left : Int), 0 ≤ expR srcs defs ahead e depth left → ∀ x ∈ allE e, x.op = 1 → x.name ∈ srcs
  | .mk op name n fold calcs kids, depth, left, h, x, hx, ho => by
    rw [expR] at h
    rw [allE] at hx
    cases hs : shapeR op with
    | none => rw [hs] at h; simp at h
    | some s =>
      rw [hs] at h
      dsimp only at h
      split at h
      · omega
      · split at h
        · rename_i hh
          split at h
          · omega
          · rcases List.mem_cons.1 hx with he | hx
            · rw [he] at ho ⊢
              have ho : op = 1 := ho
              unfold headIs at hh
              simp only [Bool.and_eq_true] at hh
              have hni := hh.2
              rw [ho] at hni
              have : srcs.contains name = true := hni
              show name ∈ srcs
              simpa using this
            · exact expRs_src srcs defs ahead kids depth left _ h x hx ho
        · omega
theorem expRs_src (srcs defs : List Str) (ahead : Nat) : ∀ (l : List Exp) (depth left n : Int), 0 ≤ expRs srcs defs ahead l depth left n → ∀ x ∈ allEs l, x.op = 1 → x.name ∈ srcs
  | [], _, _, _, _, x, hx, _ => by cases hx
  | k :: r, depth, left, n, h, x, hx, ho => by
    rw [expRs] at h
    rw [allEs] at hx
    split at h
    · omega
    · rcases List.mem_append.1 hx with hx | hx
      · exact expR_src srcs defs ahead k (depth + 1) (left - n) (by omega) x hx ho
      · exact expRs_src srcs defs ahead r depth left _ h x hx ho
end
theorem countL_src (srcs names : List Str) : ∀ (ds : List Dfn) (i : Nat) (n : Int), 0 ≤ countL srcs names ds i n → ∀ d ∈ ds, ∀ x ∈ allE d.exp, x.op = 1 → x.name ∈ srcs
  | [], _, _, _, d, hd => by cases hd
  | k :: r, i, n, h, d, hd => by
    rw [countL] at h
    split at h
    · omega
    · rcases List.mem_cons.1 hd with hk | hd
      · rw [hk]; exact expR_src srcs names i k.exp 1 (60 - n) (by omega)
      · exact countL_src srcs names r (i + 1) _ h d hd
theorem countR_src {p : Pgm} (h : 0 ≤ countR p) : ∀ d ∈ p.defs, ∀ x ∈ allE d.exp, x.op = 1 → x.name ∈ p.srcs := by
  unfold countR at h
  split at h
  · omega
  · split at h
    · exact countL_src _ _ _ _ _ h
    · omega
def srcIs (srcs : List Str) (x : Exp) (s : Nat) : Prop := x.op = 1 ∧ idxN srcs x.name = s
def SrcTo (srcs : List Str) (defs : List Dfn) (tos : List (List Nat)) (d i s : Nat) : Prop := ∃ i' y, i' < i ∧ defs[i']? = some y ∧ (i' = d ∨ Reach tos d i') ∧ ∃ x ∈ allE y.exp, srcIs srcs x s
open Classical in
noncomputable def SrcB (srcs : List Str) (defs : List Dfn) (tos : List (List Nat)) (d i s : Nat) : Bool := decide (SrcTo srcs defs tos d i s)
theorem SrcB_iff {srcs : List Str} {defs : List Dfn} {tos : List (List Nat)} {d i s : Nat} : SrcB srcs defs tos d i s = true ↔ SrcTo srcs defs tos d i s := by unfold SrcB; simp
noncomputable def srcsR (p : Pgm) (d : Nat) : List Nat := (List.range p.srcs.length).filter (SrcB p.srcs p.defs (tosR p) d p.defs.length)
end Go.Abs

/- TermParts: depths. -/
open Go Go.Abs
namespace Go.Abs
set_option maxRecDepth 100000
set_option maxHeartbeats 4000000
theorem allE_kid {kids : List Exp} {k : Exp} (h : k ∈ kids) : (allE k).length ≤ (allEs kids).length := by
  obtain ⟨i, hi⟩ := List.mem_iff_getElem?.1 h
  rw [allEs_split hi]; simp; omega
noncomputable def errR (p : Pgm) (d : Int) : Int := if hasR p d then 0 else 2
end Go.Abs

/- What definitions depend on. -/
open Go Go.Abs
namespace Go.Abs
set_option maxRecDepth 100000
set_option maxHeartbeats 4000000
instance fnis15 : FnIs CC 64 := ⟨rfl, fun _ => rfl⟩
instance fnis17 : FnIs CC 21 := ⟨rfl, fun _ => rfl⟩
noncomputable def reachN (p : Pgm) (d : Nat) : List Nat := (List.range p.defs.length).filter (reachB (tosR p) d)
noncomputable def srcsA (p : Pgm) (d : Int) : List Nat := if hasR p d then srcsR p d.toNat else []
noncomputable def reachA (p : Pgm) (d : Int) : List Nat := if hasR p d then reachN p d.toNat else []
noncomputable def ringsA (p : Pgm) : List (List Nat) := if progR p then ringsOf p else []
/-! ### sets -/
def addN (l : List Nat) (k : Nat) : List Nat := if l.contains k then l else l ++ [k]
theorem addN_mem {l : List Nat} {k x : Nat} : x ∈ addN l k ↔ x ∈ l ∨ x = k := by
  unfold addN
  split
  · rename_i h
    constructor
    · exact .inl
    · rintro (h' | rfl)
      · exact h'
      · simpa using h
  · simp
theorem addN_nodup {l : List Nat} {k : Nat} (h : l.Nodup) : (addN l k).Nodup := by
  unfold addN
  split
  · exact h
  · rename_i h'
    rw [List.nodup_append]
    exact ⟨h, by simp, fun a ha b hb => by rw [List.mem_singleton.1 hb]; exact fun e => h' (by simpa [e] using ha)⟩
theorem O.setPut {id : Nat} {l : Env} {G : Nat → Obj} {nx : Nat} {df : List (AV × List AV)} {pk : Pk} {m x y : Operand} {q k : Nat} {s : List Nat} (hm : lookO l m = some (.map q)) (hx : lookO l x = some (.imm (natIV k))) (hy : lookO l y = some (.imm (.bool true))) (hG : G q = setObj s) :
    OpV CC id l G nx df pk (.mapUpdate 116 m x y) .undef [(q, .set (setObj (addN s k)))] := by
  unfold addN
  cases hc : s.contains k with
  | false =>
    rw [if_neg (by decide), setObj_add]
    exact O.mapNew (k := ty74) (kk := ty3) rfl inferInstance hm hx hy hG rfl (setNew hc)
  | true =>
    rw [if_pos rfl]
    have hsome := findIdx_contains' k s
    rw [hc] at hsome
    obtain ⟨j, hj⟩ := Option.isSome_iff_exists.1 hsome
    have hlt := findIdx_lt' hj
    have hkj : s[j]? = some k := by
      rw [List.findIdx?_eq_some_iff_getElem] at hj
      obtain ⟨h1, h2, _⟩ := hj
      rw [List.getElem?_eq_getElem h1]
      have : k = s[j] := by simpa using h2
      rw [← this]
    have h1 : (s.map natIV).set j (natIV k) = s.map natIV := by
      rw [← List.map_set]
      congr 1
      apply List.ext_getElem?
      intro i
      rw [List.getElem?_set]
      split
      · rename_i he; subst he; rw [hkj]; try simp [hlt]
      · rfl
    have h2 : ((s.map fun _ => IV.bool true).map AV.imm).set j (.imm (.bool true)) = (s.map fun _ => IV.bool true).map AV.imm := by
      apply List.ext_getElem?
      intro i
      rw [List.getElem?_set]
      split
      · rename_i he; subst he; simp [hlt]
      · rfl
    refine O.of fun t' L hA => ?_
    have hkt := (inferInstance : TyIs CC 116 ty74).is
    have hkt3 := (inferInstance : TyIs CC 3 ty3).is
    simp only [opA, hA.ev hm, hA.ev hx, hA.ev hy, aMapUpdate, hkt, hG, setObj, show ty74.d = .mp 3 4 from rfl, hkt3]
    rw [if_pos (show keyOk ty3.d (natIV k) = true from rfl), natKey, hj]
    simp only [h1, h2]
theorem orcSet {l : List Nat} {n : Nat} {P : Nat → Bool} (hn : l.Nodup) (hb : ∀ x ∈ l, x < n) (hP : ∀ x, x < n → (P x = true ↔ x ∈ l)) (hs : l.length ≤ 4294967296) : CC.orc 69 [setIV l] = some (.own 3 1 (((List.range n).filter P).map natIV)) := by
  show (if (l.map natIV).all isIntIV = true ∧ (l.map natIV).length ≤ 4294967296 then some (OrcR.own 3 1 ((isort (ints (l.map natIV))).map (.int .i64))) else none) = _
  rw [if_pos ⟨natKeys_int l, by simpa using hs⟩, sorted_eq hn hb hP]
def SrcIn (srcs : List Str) (defs : List Dfn) (L : List Nat) (s : Nat) : Prop := ∃ i ∈ L, ∃ y, defs[i]? = some y ∧ ∃ x ∈ allE y.exp, srcIs srcs x s
theorem ret15 (p : Pgm) (hp : p.Fits) (d : Int) : Ret CC 64 [p.iv, .int .i64 d] (.tup [natsIV (srcsA p d), natsIV (reachA p d), .int .i64 (errR p d)]) := by
  have hr := ret46 p hp d
  unfold srcsA reachA errR
  have hat := hasR_at (p := p) (d := d)
  cases hb : hasR p d with
  | true =>
    rw [hb] at hr hat
    obtain ⟨hpr, d, y, rfl, hy⟩ := hat rfl
    have hc := progR_count hpr
    have hg := countR_good hc
    have htl : (tosR p).length = p.defs.length := hg.steps.2.1
    have hi : d < p.defs.length := (List.getElem?_eq_some_iff.1 hy).1
    have hlk : lookedIV p = scopeIV p ((p.defs.length - 1 : Nat) : Int) (countR p) := by unfold lookedIV; rw [hpr]; rfl
    rw [hlk] at hr
    obtain ⟨out, ho1, ho2, ho3, hr47⟩ := ret47 hp hg.tos ((p.defs.length - 1 : Nat) : Int) (countR p) (d := d) (by rw [htl]; exact hi)
    have hsrc := countR_src hc
    have hd6 := hg.defs
    have hs4 := hg.srcs
    have hfit := hp.exp
    have holen := nodup_lt ho1 ho2
    have horc : CC.orc 69 [setIV out] = some (.own 3 1 ((reachN p d).map natIV)) := orcSet (n := p.defs.length) ho1 (fun x hx => by rw [← htl]; exact ho2 x hx) (fun x hx => by rw [ho3 x, reachB_iff]) (by omega)
    have hrm : ∀ i, i ∈ reachN p d ↔ Reach (tosR p) d i := fun i => by
      unfold reachN
      rw [List.mem_filter, List.mem_range, reachB_iff]
      exact ⟨fun h => h.2, fun h => ⟨by rw [← htl]; exact ho2 i ((ho3 i).2 h), h⟩⟩
    have hrl : (reachN p d).length ≤ 6 := by
      have := List.length_filter_le (reachB (tosR p) d) (List.range p.defs.length)
      rw [List.length_range] at this
      unfold reachN; omega
    have hrlt : ∀ i ∈ reachN p d, i < p.defs.length := fun i h => by
      unfold reachN at h
      rw [List.mem_filter, List.mem_range] at h
      exact h.1
    simp only [if_true, Int.toNat_natCast]
    have hsrcs : ∀ s, SrcB p.srcs p.defs (tosR p) d p.defs.length s = true ↔ SrcIn p.srcs p.defs (reachN p d ++ [d]) s := fun s => by
      rw [SrcB_iff]
      constructor
      · rintro ⟨i, z, h1, h2, h3, h4⟩
        refine ⟨i, ?_, z, h2, h4⟩
        rw [List.mem_append, hrm]
        rcases h3 with rfl | h3
        · exact .inr (by simp)
        · exact .inl h3
      · rintro ⟨i, h1, z, h2, h4⟩
        refine ⟨i, z, (List.getElem?_eq_some_iff.1 h2).1, h2, ?_, h4⟩
        rw [List.mem_append, hrm] at h1
        rcases h1 with h1 | h1
        · exact .inr h1
        · exact .inl (by simpa using h1)
    unfold srcsR
    generalize reachN p d = rn at *
    generalize hSB : SrcB p.srcs p.defs (tosR p) d p.defs.length = SB at *
    clear hSB
    generalize ((p.defs.length - 1 : Nat) : Int) = m1 at *
    generalize countR p = m2 at *
    have bf : (!true) = false := rfl
    obtain ⟨srcs, defs⟩ := p
    simp only at *
    have hdm : (defs.map Dfn.iv).length = defs.length := List.length_map ..
    refine Ret.of (fn := Go.Proofs.Tryz.f64) (by kernel_rfl) rfl rfl ?_
    refine AA ?_
    refine R.op1 (O.callOwnI rfl horc rfl rfl) rfl ?_
    refine AA ?_
    refine R.op1 (O.appRow rfl rfl rfl at_upd (List.length_map ..) rfl (elems_row at_upd rfl) (by decide) (by decide) rfl rfl (by simp only [List.length_map, List.length_cons, List.length_nil, most]; omega)) rfl ?_
    refine R.op0 (O.lenR rfl rfl at_upd rfl) rfl ?_
    refine AA ?_
    have hLl : (((rn.map natIV).map AV.imm) ++ [AV.imm (.int .i64 ((d : Nat) : Int))]).length = (rn ++ [d]).length := by simp
    rw [hLl]
    have hLm : (((rn ++ [d]).map natIV).map AV.imm).length = (rn ++ [d]).length := by simp
    have hLlt : ∀ i ∈ rn ++ [d], i < defs.length := fun i h => by
      rcases List.mem_append.1 h with h | h
      · exact hrlt i h
      · rw [List.mem_singleton.1 h]; exact hi
    have hLn : (rn ++ [d]).length ≤ 7 := by rw [List.length_append]; simp; omega
    have hrow : ((rn.map natIV).map AV.imm) ++ [AV.imm (.int .i64 ((d : Nat) : Int))] = ((rn ++ [d]).map natIV).map AV.imm := by simp; rfl
    rw [hrow]
    generalize rn ++ [d] = L at *
    refine W.loop (X := Nat) (fun j => [(1, .imm (natIV d)), (2, .ptr 0 0), (7, .ptr 10 0), (9, .imm (setIV out)), (10, .ptr 21 0), (31, .row 24 L.length), (32, .imm (.int .i64 L.length)), (33, .imm (.int .i64 j))])
      (fun j nx G => 27 ≤ nx ∧ G 0 = .box [.imm (.lst (srcs.map sv)), .imm (.lst (defs.map Dfn.iv))] false ∧ G 10 = .box [.imm (scopeIV ⟨srcs, defs⟩ m1 m2)] false ∧ G 21 = .box [.map 20] false ∧ G 24 = .row 3 1 ((L.map natIV).map AV.imm) false ∧ j ≤ L.length ∧
        ∃ fm, G 20 = setObj fm ∧ fm.Nodup ∧ (∀ s ∈ fm, s < srcs.length) ∧ ∀ s, s ∈ fm ↔ SrcIn srcs defs (L.take j) s)
      (fun j => L.length - j) 0 .auto ⟨by omega, rfl, rfl, rfl, rfl, Nat.zero_le _, [], rfl, by simp, by simp, fun s => ⟨(fun h => by cases h), (fun ⟨_, h, _⟩ => by cases h)⟩⟩ ?_
    rintro j nx G ⟨hnx, hG0, hG10, hG21, hG24, hj, fm, hG20, hfn, hfb, hfm⟩
    rcases Bool.eq_false_or_eq_true (decide ((j : Int) < (L.length : Int))) with hcc | hcc
    · have hlt : j < L.length := by have := of_decide_eq_true hcc; omega
      obtain ⟨i, hji⟩ := at_lt hlt
      have hjx : ((L.map natIV).map AV.imm)[((j : Nat) : Int).toNat]? = some (.imm (natIV i)) := by rw [Int.toNat_natCast]; simp [hji]
      have hid := hLlt i (List.mem_of_getElem? hji)
      obtain ⟨z, hx⟩ := at_lt hid
      have hxi := at_map Dfn.iv hx
      have hdc := z.cells_len
      have hm := List.mem_of_getElem? hx
      have hf := hfit z hm
      have hsz := hsrc z hm
      have hr49 := ret49 z.exp
      have hmu : L.length - (j + 1) < L.length - j := by omega
      have hstep : ∀ s, SrcIn srcs defs (L.take (j + 1)) s ↔ SrcIn srcs defs (L.take j) s ∨ ∃ x ∈ allE z.exp, srcIs srcs x s := by
        intro s
        rw [List.take_add_one, hji]
        constructor
        · rintro ⟨i', h1, y', h2, h3⟩
          rcases List.mem_append.1 h1 with h1 | h1
          · exact .inl ⟨i', h1, y', h2, h3⟩
          · simp at h1; subst h1
            rw [hx] at h2; cases h2
            exact .inr h3
        · rintro (⟨i', h1, y', h2, h3⟩ | h3)
          · exact ⟨i', by simp [h1], y', h2, h3⟩
          · exact ⟨i, by simp, z, hx, h3⟩
      obtain ⟨nm, ⟨o', s', n', f', c', k'⟩⟩ := z
      simp only at hf hsz hstep
      refine AA ?_
      refine W.nodes _ hf (fun k G1 => (∀ o, o < nx → o ≠ 20 → G1 o = G o) ∧ ∃ fm1, G1 20 = setObj fm1 ∧ fm1.Nodup ∧ (∀ s ∈ fm1, s < srcs.length) ∧ ∀ s, s ∈ fm1 ↔ SrcIn srcs defs (L.take j) s ∨ ∃ x ∈ (allE (.mk o' s' n' f' c' k')).take k, srcIs srcs x s) (fun _ => False) (fun _ _ _ => False)
        rfl rfl rfl rfl rfl ?_ ?_ ?_ ?_ ?_ ?_ ?_
      · rintro k G1 G2 ⟨h1, fm1, h2, h3⟩ hG
        exact ⟨fun o h4 h5 => (hG o (by omega)).trans (h1 o h4 h5), fm1, (hG 20 (by omega)).trans h2, h3⟩
      · intro _ _ h; exact h.elim
      · exact ⟨fun o _ _ => rfl, fm, hG20, hfn, hfb, fun s => by rw [hfm s]; simp⟩
      · rintro q k x G1 nx1 lp0 lp1 Φr hq hxa hn ⟨h1, fm1, h2, h3, h4, h5⟩ hlp next _ _
        have htake : ∀ s, (∃ z ∈ (allE (.mk o' s' n' f' c' k')).take (k + 1), srcIs srcs z s) ↔ (∃ z ∈ (allE (.mk o' s' n' f' c' k')).take k, srcIs srcs z s) ∨ srcIs srcs x s := by
          intro s
          rw [List.take_add_one, hxa]
          simp only [List.mem_append, Option.mem_toList]
          constructor
          · rintro ⟨z, h | h, h2⟩
            · exact .inl ⟨z, h, h2⟩
            · cases h; exact .inr h2
          · rintro (⟨z, h, h2⟩ | h)
            · exact ⟨z, .inl h, h2⟩
            · exact ⟨x, .inr rfl, h⟩
        have hxs := hsz x (List.mem_of_getElem? hxa)
        obtain ⟨op', name', m', fold', calcs', kids'⟩ := x
        have hL1 := numLook0 srcs name'
        refine W.regionN ?_
        refine AQ ?_
        refine R.doneAstQ at_upd ?_
        refine W.gen' (fun G2 => G2 (nx1 + 0) = .box [.imm (.int .i64 op'), .imm (sv name'), .imm (.int .i64 m'), .imm (.int .i64 fold'), .imm (.lst (Trm.ivs calcs')), .imm (.lst (Exp.ivs kids'))] false ∧ G2 q = lp1 ∧ ∀ o, o < nx1 → o ≠ q → G2 o = G1 o) ⟨at_upd, at_upd, fun o _ _ => at_upd⟩ ?_
        rintro G2 ⟨hbx, hlp2, hfr2⟩
        have h20 := (hfr2 20 (by omega) (by omega)).trans h2
        have h10 := (hfr2 10 (by omega) (by omega)).trans ((h1 10 (by omega) (by decide)).trans hG10)
        have h21 := (hfr2 21 (by omega) (by omega)).trans ((h1 21 (by omega) (by decide)).trans hG21)
        rcases Bool.eq_false_or_eq_true (op' == 1) with hop | hop
        · have hop1 : op' = 1 := by simpa using hop
          have hin := hxs hop1
          refine AN ?_
          refine D.opN1 (O.setPut rfl rfl rfl h20) rfl ?_
          refine D.skip (by kernel_rfl) ?_
          refine AN ?_
          refine next (by omega) (fun o g5 g6 => ?_) ⟨fun o g5 g6 => ?_, addN fm1 (idxN srcs name'), upd_same _ _ _, addN_nodup h3, fun s hs => ?_, fun s => ?_⟩ at_upd
          · rw [upd_ne _ _ _ _ (by omega)]; exact hfr2 o g6 (by omega)
          · rw [upd_ne _ _ _ _ g6, hfr2 o (by omega) (by omega), h1 o g5 g6]
          · rcases addN_mem.1 hs with hs | rfl
            · exact h4 s hs
            · exact idxN_lt hin
          · rw [addN_mem, h5 s, htake s, or_assoc]
            have : srcIs srcs (.mk op' name' m' fold' calcs' kids') s ↔ s = idxN srcs name' := ⟨fun h => h.2.symm, fun h => ⟨hop1, h.symm⟩⟩
            rw [this]
        · have hop1 : op' ≠ 1 := by simpa using hop
          refine AN ?_
          refine next (by omega) (fun o g5 g6 => hfr2 o g6 (by omega)) ⟨fun o g5 g6 => ?_, fm1, h20, h3, h4, fun s => ?_⟩ hlp2
          · rw [hfr2 o (by omega) (by omega), h1 o g5 g6]
          · rw [h5 s, htake s]
            have : ¬ srcIs srcs (.mk op' name' m' fold' calcs' kids') s := fun h => hop1 h.1
            simp only [this, or_false]
      · rintro G1 nx1 ⟨h1, fm1, h2, h3, h4, h5⟩ hn
        rw [List.take_length] at h5
        refine AN ?_
        exact W.skipLop (j + 1) hmu .auto ⟨by omega, (h1 0 (by omega) (by decide)).trans hG0, (h1 10 (by omega) (by decide)).trans hG10, (h1 21 (by omega) (by decide)).trans hG21, (h1 24 (by omega) (by decide)).trans hG24, hlt, fm1, h2, h3, h4, fun s => by rw [h5 s, hstep s]⟩
      · intro _ _ h; exact h.elim
      · intro _ _ _ h; exact h.elim
    · have hge : L.length ≤ j := by have := of_decide_eq_false hcc; omega
      rw [List.take_of_length_le hge] at hfm
      have horc2 : CC.orc 69 [setIV fm] = some (.own 3 1 (((List.range srcs.length).filter SB).map natIV)) := orcSet hfn hfb (fun s _ => by rw [hsrcs s, hfm s]) (by have := nodup_lt hfn hfb; omega)
      refine AA ?_
      refine R.opU (O.callOwn rfl horc2 rfl (peeks_cons (vs := []) (peek_mpx hG20))) rfl ?_
      refine R.gen' (fun G2 => G2 (nx + 1 + 1) = .row 3 1 ((((List.range srcs.length).filter SB).map natIV).map .imm) false) (by rw [updL_frz1, if_pos rfl]) ?_
      intro G2 hrow2
      refine AA ?_
      refine R.op1 (O.callOwnI rfl horc rfl rfl) rfl ?_
      refine AA ?_
      refine W.retFin rfl rfl ?_
      refine Rdx.peek (d := 2) (P := fun _ => True) (Rdx.tup (d := 1) (.cons (Rdx.row (d := 0) (e := 3) (sz := 1) (fr := false) ?_ (List.length_map ..) (All2.imms 0 _ _ _) trivial) (.cons (Rdx.row (d := 0) (e := 3) (sz := 1) (fr := false) ?_ (List.length_map ..) (All2.imms 0 _ _ _) trivial) (.cons (.imm ..) .nil)))) (by decide)
      · exact at_upd
      · exact at_upd
  | false =>
    rw [hb] at hr
    unfold lookedIV at hr
    have bt : (!false) = true := rfl
    generalize progR p = pr at *
    generalize ((p.defs.length - 1 : Nat) : Int) = m1 at *
    generalize countR p = m2 at *
    obtain ⟨srcs, defs⟩ := p
    refine Ret.of (fn := Go.Proofs.Tryz.f64) (by kernel_rfl) rfl rfl ?_
    cases pr with
    | true =>
      rw [if_pos rfl] at hr
      refine AA ?_
      exact W.retFin rfl rfl ⟨[], rfl⟩
    | false =>
      rw [if_neg (by decide)] at hr
      refine AA ?_
      exact W.retFin rfl rfl ⟨[], rfl⟩
end Go.Abs

/- The rings of a program, as the program finds them. -/
open Go Go.Abs
namespace Go.Abs
set_option maxRecDepth 100000
set_option maxHeartbeats 4000000
theorem ring_eq {tos : List (List Nat)} {i : Nat} (hi : i < tos.length) (hr : Reach tos i i) : ((List.range tos.length).filter (reachB tos i)).filter (fun k => reachB tos k i) = ringTo (reachR tos) i tos.length := by
  unfold ringTo
  rw [List.filter_filter]
  apply List.filter_congr
  intro k hk
  rw [List.mem_range] at hk
  rw [Bool.eq_iff_iff, inRing_iff hi hk, Bool.and_eq_true, reachB_iff, reachB_iff]
  constructor
  · rintro ⟨a, b⟩; exact .inr ⟨b, a⟩
  · rintro (rfl | ⟨a, b⟩)
    · exact ⟨hr, hr⟩
    · exact ⟨b, a⟩
theorem head_ring {tos : List (List Nat)} {i : Nat} (hi : i < tos.length) : (ringTo (reachR tos) i tos.length).head? = some i ↔ ∀ k, k < i → ¬ (Reach tos i k ∧ Reach tos k i) := by
  unfold ringTo
  have hn : tos.length = i + (tos.length - i - 1 + 1) := by omega
  have hsplit : List.range tos.length = List.range i ++ (List.range (tos.length - i - 1 + 1)).map (i + ·) := by
    conv => lhs; rw [hn]
    rw [List.range_add]
  rw [hsplit, List.filter_append, List.range_succ_eq_map, List.map_cons, List.filter_cons]
  have hii : inRing (reachR tos) i (i + 0) = true := by unfold inRing; simp
  rw [if_pos hii]
  constructor
  · intro h k hk hm
    have hmem : k ∈ (List.range i).filter (inRing (reachR tos) i) := List.mem_filter.2 ⟨List.mem_range.2 hk, (inRing_iff hi (by omega)).2 (.inr hm)⟩
    cases hf : (List.range i).filter (inRing (reachR tos) i) with
    | nil => rw [hf] at hmem; cases hmem
    | cons a r =>
      rw [hf] at h
      simp at h
      subst h
      have : a ∈ (List.range a).filter (inRing (reachR tos) a) := by rw [hf]; simp
      rw [List.mem_filter, List.mem_range] at this
      omega
  · intro h
    have : (List.range i).filter (inRing (reachR tos) i) = [] := by
      rw [List.filter_eq_nil_iff]
      intro k hk hr
      rw [List.mem_range] at hk
      rcases (inRing_iff hi (by omega)).1 hr with rfl | hm
      · omega
      · exact h k hk hm
    rw [this]; simp
def InRing (tos : List (List Nat)) (i s : Nat) : Prop := ∃ i', i' < i ∧ Reach tos i' i' ∧ Reach tos i' s ∧ Reach tos s i'
theorem ringIs_iff {tos : List (List Nat)} {i : Nat} (hi : i < tos.length) : ringIs (reachR tos) i = true ↔ Reach tos i i ∧ ¬ InRing tos i i := by
  unfold ringIs
  rw [reachR_len, Bool.and_eq_true, at2_reach hi hi, reachB_iff, beq_iff_eq, head_ring hi]
  constructor
  · rintro ⟨h1, h2⟩
    exact ⟨h1, fun ⟨i', h3, h4, h5, h6⟩ => h2 i' h3 ⟨h6, h5⟩⟩
  · rintro ⟨h1, h2⟩
    exact ⟨h1, fun k hk ⟨h3, h4⟩ => h2 ⟨k, hk, h4.trans h3, h4, h3⟩⟩
theorem InRing.skip {tos : List (List Nat)} {i s : Nat} (h : ¬ Reach tos i i ∨ InRing tos i i) : InRing tos (i + 1) s ↔ InRing tos i s := by
  constructor
  · rintro ⟨i', h1, h2, h3, h4⟩
    by_cases he : i' = i
    · subst he
      rcases h with h | ⟨j, g1, g2, g3, g4⟩
      · exact absurd h2 h
      · exact ⟨j, g1, g2, g3.trans h3, h4.trans g4⟩
    · exact ⟨i', by omega, h2, h3, h4⟩
  · rintro ⟨i', h1, h2⟩
    exact ⟨i', by omega, h2⟩
theorem InRing.step {tos : List (List Nat)} {i s : Nat} (h : Reach tos i i) : InRing tos (i + 1) s ↔ InRing tos i s ∨ (Reach tos i s ∧ Reach tos s i) := by
  constructor
  · rintro ⟨i', h1, h2, h3, h4⟩
    by_cases he : i' = i
    · subst he; exact .inr ⟨h3, h4⟩
    · exact .inl ⟨i', by omega, h2, h3, h4⟩
  · rintro (⟨i', h1, h2⟩ | ⟨h1, h2⟩)
    · exact ⟨i', by omega, h2⟩
    · exact ⟨i, by omega, h, h1, h2⟩
theorem ret17 (p : Pgm) (hp : p.Fits) : Ret CC 21 [p.iv] (.tup [.lst ((ringsA p).map natsIV), .int .i64 (if progR p then 0 else 2)]) := by
  have hr := ret54 p hp
  unfold lookedIV at hr
  unfold ringsA
  cases hb : progR p with
  | true =>
    rw [hb] at hr
    simp only [if_true] at hr ⊢
    have hc := progR_count hb
    have hg := countR_good hc
    have htos := hg.tos
    have htl : (tosR p).length = p.defs.length := hg.steps.2.1
    have hd6 := hg.defs
    have hreach := fun (d : Nat) (h : d < p.defs.length) => ret47 hp htos ((p.defs.length - 1 : Nat) : Int) (countR p) (d := d) (by rw [htl]; exact h)
    have hrings : ringsOf p = ringsTo (reachR (tosR p)) p.defs.length := by unfold ringsOf ringsR; rw [reachR_len, htl]
    rw [hrings]
    generalize ((p.defs.length - 1 : Nat) : Int) = m1 at *
    generalize countR p = m2 at *
    generalize tosR p = tos at *
    obtain ⟨srcs, defs⟩ := p
    simp only at *
    have hdm : (defs.map Dfn.iv).length = defs.length := List.length_map ..
    refine Ret.of (fn := Go.Proofs.Tryz.f21) (by kernel_rfl) rfl rfl ?_
    refine AA ?_
    refine W.loop (X := Nat × AV) (fun x => [(1, .ptr 0 0), (4, .imm (scopeIV ⟨srcs, defs⟩ m1 m2)), (6, .map 9), (18, .imm (.lst (defs.map Dfn.iv))), (19, .imm (.int .i64 (defs.map Dfn.iv).length)), (20, .imm (.int .i64 x.1)), (5, x.2)])
      (fun x nx G => 11 ≤ nx ∧ G 0 = .box [.imm (.lst (srcs.map sv)), .imm (.lst (defs.map Dfn.iv))] false ∧ (∃ ins, G 9 = setObj ins ∧ ins.Nodup ∧ ∀ s, s ∈ ins ↔ InRing tos x.1 s) ∧ x.1 ≤ defs.length ∧ OwnV 1 44 1 11 nx ((ringsTo (reachR tos) x.1).map natsIV) G x.2)
      (fun x => defs.length - x.1) (0, .nils) .auto ⟨by omega, rfl, ⟨[], rfl, by simp, fun s => ⟨(fun h => by cases h), (fun ⟨_, h, _⟩ => by omega)⟩⟩, Nat.zero_le _, .nil ..⟩ ?_
    rintro ⟨i, v⟩ nx G ⟨hnx, hG0, ⟨ins, hG9, hin, him⟩, hi, ho⟩
    dsimp only at him hi ho ⊢
    rcases Bool.eq_false_or_eq_true (decide ((i : Int) < ((defs.map Dfn.iv).length : Int))) with hcc | hcc
    · have hlt : i < defs.length := by have := of_decide_eq_true hcc; omega
      have hmu : defs.length - (i + 1) < defs.length - i := by omega
      obtain ⟨out, ho1, ho2, ho3, hr47⟩ := hreach i hlt
      have hset1 : lookIs (some ty3) (some ty4) (mapKV G (.map 9)) (natIV i) false (.imm (.bool (ins.contains i))) := by
        simp only [mapKV, hG9, setObj]; exact setLook ins i
      have hset2 := setLook out i
      have hins : ins.contains i = true ↔ InRing tos i i := by rw [← him i]; simp
      have hout : out.contains i = true ↔ Reach tos i i := by rw [← ho3 i]; simp
      have hsucc := ringsTo_succ (reachR tos) i
      have skip : (¬ Reach tos i i ∨ InRing tos i i) → (∀ s, s ∈ ins ↔ InRing tos (i + 1) s) ∧ ringsTo (reachR tos) (i + 1) = ringsTo (reachR tos) i := by
        intro h
        refine ⟨fun s => by rw [him s, InRing.skip h], ?_⟩
        rw [hsucc]
        have : ringIs (reachR tos) i = false := by
          rw [Bool.eq_false_iff]
          intro h'
          have := (ringIs_iff (by omega)).1 h'
          rcases h with h | h
          · exact h this.1
          · exact this.2 h
        rw [this, if_neg (by decide), List.append_nil]
      rcases Bool.eq_false_or_eq_true (ins.contains i) with hA | hA
      · obtain ⟨s1, s2⟩ := skip (.inr (hins.1 hA))
        refine AA ?_
        refine W.skipLop (i + 1, v) hmu .auto ⟨by omega, hG0, ⟨ins, hG9, hin, s1⟩, hlt, ?_⟩
        dsimp only
        rw [s2]
        exact ho.frame (by omega) fun _ _ _ => rfl
      rcases Bool.eq_false_or_eq_true (!out.contains i) with hB | hB
      · have hB' : out.contains i = false := by simpa using hB
        obtain ⟨s1, s2⟩ := skip (.inl fun h => by rw [hout.2 h] at hB'; cases hB')
        refine AA ?_
        refine W.skipLop (i + 1, v) hmu .auto ⟨by omega, hG0, ⟨ins, hG9, hin, s1⟩, hlt, ?_⟩
        dsimp only
        rw [s2]
        exact ho.frame (by omega) fun _ _ _ => rfl
      have hB' : out.contains i = true := by simpa using hB
      have hri := hout.1 hB'
      have hni : ¬ InRing tos i i := fun h => by rw [hins.2 h] at hA; cases hA
      have hri2 : ringIs (reachR tos) i = true := (ringIs_iff (by omega)).2 ⟨hri, hni⟩
      rw [hri2, if_pos rfl, reachR_len, ← ring_eq (by omega) hri] at hsucc
      have holen := nodup_lt ho1 ho2
      have horc : CC.orc 69 [setIV out] = some (.own 3 1 (((List.range tos.length).filter (reachB tos i)).map natIV)) := orcSet ho1 ho2 (fun x _ => by rw [ho3 x, reachB_iff]) (by omega)
      have hLlt : ∀ k ∈ (List.range tos.length).filter (reachB tos i), k < defs.length := fun k h => by
        rw [List.mem_filter, List.mem_range] at h; omega
      have hLr : ∀ k ∈ (List.range tos.length).filter (reachB tos i), Reach tos i k := fun k h => by
        rw [List.mem_filter] at h; exact reachB_iff.1 h.2
      have hLa : ∀ k, Reach tos i k → k ∈ (List.range tos.length).filter (reachB tos i) := fun k h => by
        rw [List.mem_filter, List.mem_range]; exact ⟨ho2 k ((ho3 k).2 h), reachB_iff.2 h⟩
      have hLl : ((List.range tos.length).filter (reachB tos i)).length ≤ 6 := by
        have := List.length_filter_le (reachB tos i) (List.range tos.length)
        rw [List.length_range] at this; omega
      generalize (List.range tos.length).filter (reachB tos i) = L at *
      refine AA ?_
      refine R.op1 (O.callOwnI rfl horc rfl rfl) rfl ?_
      refine R.op0 (O.lenR rfl rfl at_upd (List.length_map ..)) rfl ?_
      refine AA ?_
      have hLm : (L.map natIV).length = L.length := List.length_map ..
      rw [hLm]
      generalize hRR : nx + 1 + 2 + 5 + 9 + 1 + 1 = bR
      have hLm2 : ((L.map natIV).map AV.imm).length = L.length := by simp
      generalize hP : (fun k => reachB tos k i) = P at *
      have hPk : ∀ k, P k = reachB tos k i := fun k => by rw [← hP]
      refine W.loop (X := Nat × AV) (fun x => [(1, .ptr 0 0), (4, .imm (scopeIV ⟨srcs, defs⟩ m1 m2)), (6, .map 9), (7, .imm (natIV i)), (18, .imm (.lst (defs.map Dfn.iv))), (19, .imm (.int .i64 (defs.map Dfn.iv).length)), (20, .imm (.int .i64 i)), (5, v), (37, .row bR L.length), (38, .imm (.int .i64 L.length)), (39, .imm (.int .i64 x.1)), (9, x.2)])
        (fun x nx2 G2 => bR + 1 ≤ nx2 ∧ G2 0 = .box [.imm (.lst (srcs.map sv)), .imm (.lst (defs.map Dfn.iv))] false ∧ G2 bR = .row 3 1 ((L.map natIV).map AV.imm) false ∧ (∃ insj, G2 9 = setObj insj ∧ insj.Nodup ∧ ∀ s, s ∈ insj ↔ s ∈ ins ∨ s ∈ (L.take x.1).filter P) ∧ x.1 ≤ L.length ∧ OwnV 1 44 1 11 nx ((ringsTo (reachR tos) i).map natsIV) G2 v ∧ Own 3 1 (bR + 1) nx2 (((L.take x.1).filter P).map natIV) G2 x.2)
        (fun x => L.length - x.1) (0, .nils) .auto ⟨by omega, (upd_ne _ _ _ _ (by omega)).trans hG0, upd_same _ _ _, ⟨ins, (upd_ne _ _ _ _ (by omega)).trans hG9, hin, fun s => by simp⟩, Nat.zero_le _, ho.frame (Nat.le_refl _) (fun o _ h => upd_ne _ _ _ _ (by omega)), .inl ⟨rfl, rfl⟩⟩ ?_
      rintro ⟨j, w⟩ nx2 G2 ⟨hnx2, hB0, hBR, ⟨insj, hB9, hjn, hjm⟩, hj, hov, how⟩
      dsimp only at hjm hj hov how ⊢
      rcases Bool.eq_false_or_eq_true (decide ((j : Int) < (L.length : Int))) with hcj | hcj
      · have hltj : j < L.length := by have := of_decide_eq_true hcj; omega
        obtain ⟨k, hjk⟩ := at_lt hltj
        have hjx : ((L.map natIV).map AV.imm)[((j : Nat) : Int).toNat]? = some (.imm (natIV k)) := by rw [Int.toNat_natCast]; simp [hjk]
        have hkd := hLlt k (List.mem_of_getElem? hjk)
        obtain ⟨outk, hk1, hk2, hk3, hr47k⟩ := hreach k hkd
        have hset3 := setLook outk i
        have hmu2 : L.length - (j + 1) < L.length - j := by omega
        have htk : (L.take (j + 1)).filter P = (L.take j).filter P ++ (if P k then [k] else []) := by
          rw [List.take_add_one, hjk, List.filter_append]
          congr 1
          simp only [Option.toList, List.filter_cons, List.filter_nil]
        have hPc : P k = outk.contains i := by
          rw [hPk, Bool.eq_iff_iff, reachB_iff, ← hk3 i]; simp
        have hll : ((L.take j).filter P).length ≤ 6 := by
          have h1 := List.length_filter_le P (L.take j)
          rw [List.length_take] at h1; omega
        rcases Bool.eq_false_or_eq_true (outk.contains i) with hC | hC
        · rw [hPc, hC, if_pos rfl] at htk
          refine AA ?_
          refine R.app1 how at_upd (by simp only [List.length_map, most]; omega) fun v' G' ho' hG' => ?_
          have hfr : ∀ o, o < bR + 1 → G' o = G2 o := fun o h => by rw [hG' o h, upd_ne _ _ _ _ (by omega)]
          have h9 : G' 9 = setObj insj := (hfr 9 (by omega)).trans hB9
          refine AA ?_
          refine R.opN1 (O.setPut rfl rfl rfl h9) ?_
          refine AA ?_
          refine W.skipLop (j + 1, v') hmu2 .auto ⟨by omega, (upd_ne _ _ _ _ (by omega)).trans ((hfr 0 (by omega)).trans hB0), (upd_ne _ _ _ _ (by omega)).trans ((hfr bR (by omega)).trans hBR), ⟨addN insj k, upd_same _ _ _, addN_nodup hjn, fun s => ?_⟩, hltj, hov.frame (Nat.le_refl _) (fun o h1 h2 => (upd_ne _ _ _ _ (by omega)).trans (hfr o (by omega))), ?_⟩
          · rw [addN_mem, hjm s, htk, List.mem_append, List.mem_singleton, or_assoc]
          · show Own 3 1 (bR + 1) _ (((L.take (j + 1)).filter P).map natIV) _ v'
            rw [htk, List.map_append]
            exact ho'.frame (by omega) fun o h1 _ => upd_ne _ _ _ _ (by omega)
        · rw [hPc, hC, if_neg (by decide), List.append_nil] at htk
          refine AA ?_
          refine W.skipLop (j + 1, w) hmu2 .auto ⟨by omega, hB0, hBR, ⟨insj, hB9, hjn, fun s => by rw [hjm s, htk]⟩, hltj, hov, ?_⟩
          show Own 3 1 (bR + 1) _ (((L.take (j + 1)).filter P).map natIV) _ w
          rw [htk]
          exact how.up (by omega)
      · have hgej : L.length ≤ j := by have := of_decide_eq_false hcj; omega
        rw [List.take_of_length_le hgej] at hjm how
        refine AA ?_
        have hfit := how.fits1
        have hrl := ringsTo_len (reachR tos) i
        refine R.op1 (O.buildS (n := 1) (ke := ty30) (xs := [w]) rfl rfl rfl (by decide) rfl (by show ([w].all (AV.fits 1)) = true; simp [hfit]) (by decide)) rfl ?_
        refine R.appOwnV (d' := 1) (lo := 11) (hi := nx) (ws := [w]) (ys := [natsIV (L.filter P)]) rfl rfl rfl (hov.frame (Nat.le_refl _) fun o _ h => upd_ne _ _ _ _ (by omega)) rfl (by simp [elems, upd]) (by decide) (by decide) rfl (by show ([w].all (AV.fits 1)) = true; simp [hfit]) (by simp only [List.length_map, List.length_cons, List.length_nil, most]; omega) ⟨by omega, by omega⟩ (fun G' h1 h2 => ⟨?_, trivial⟩) rfl fun v' G' ho' hG1 hG2 => ?_
        · exact how.rdx.frame (fun o ho => by rw [h2 o (by omega) (by omega), upd_ne _ _ _ _ (by omega)]) fun o ho => ⟨by omega, by omega⟩
        · refine AA ?_
          refine W.skipLop (i + 1, v') hmu .auto ⟨by omega, by rw [hG1 0 (by omega), upd_ne _ _ _ _ (by omega)]; exact hB0, ⟨insj, by rw [hG1 9 (by omega), upd_ne _ _ _ _ (by omega)]; exact hB9, hjn, fun s => ?_⟩, hlt, ?_⟩
          · rw [InRing.step hri, hjm s, him s, List.mem_filter, hPk, reachB_iff]
            constructor
            · rintro (h | ⟨h, h'⟩)
              · exact .inl h
              · exact .inr ⟨hLr s h, h'⟩
            · rintro (h | ⟨h, h'⟩)
              · exact .inl h
              · exact .inr ⟨hLa s h, h'⟩
          · show OwnV 1 44 1 11 _ ((ringsTo (reachR tos) (i + 1)).map natsIV) G' v'
            rw [hsucc, List.map_append]
            exact ho'.frame (by omega) fun _ _ _ => rfl
    · have hge : defs.length ≤ i := by have := of_decide_eq_false hcc; omega
      have he : i = defs.length := by omega
      subst he
      have hp := ho.rdx
      refine AA ?_
      rcases ho with ⟨h0, rfl⟩ | ⟨o, vs, _, _, rfl, _⟩
      · exact W.retFin2 rfl rfl ⟨[], by rw [h0]; rfl⟩
      · exact W.retFin2 rfl rfl (Rdx.peek (d := 3) (Rdx.tup (d := 2) (.cons hp (.cons (.imm ..) .nil))) (by decide))
  | false =>
    rw [hb] at hr
    simp only [Bool.false_eq_true, if_false] at hr ⊢
    obtain ⟨srcs, defs⟩ := p
    refine Ret.of (fn := Go.Proofs.Tryz.f21) (by kernel_rfl) rfl rfl ?_
    refine AA ?_
    exact W.retFin2 rfl rfl ⟨[], rfl⟩
end Go.Abs

/- The groups of definitions, in their order, as the program finds them: what is ready. -/
open Go Go.Abs
namespace Go.Abs
set_option maxRecDepth 100000
set_option maxHeartbeats 4000000
def ty561 : TyI := { d := TyD.mp 3 44, sz := 1, bytes := 8, zero := AV.imm IV.nilmap }
instance tyis561 : TyIs CC 261 ty561 := ⟨by kernel_rfl⟩
def RowF (lo hi : Nat) (G : Nat → Obj) (v : AV) (g : List Nat) : Prop := v = .imm (natsIV g) ∨ ∃ o fr, lo ≤ o ∧ o < hi ∧ v = .row o g.length ∧ G o = .row 3 1 ((g.map natIV).map .imm) fr
theorem RowF.frame {G G' : Nat → Obj} {lo hi hi' : Nat} {v : AV} {g : List Nat} (h : RowF lo hi G v g) (hh : hi ≤ hi') (hG : ∀ o, lo ≤ o → o < hi → G' o = G o) : RowF lo hi' G' v g := by
  rcases h with h | ⟨o, fr, h0, h1, h2, h3⟩
  · exact .inl h
  · exact .inr ⟨o, fr, h0, by omega, h2, by rw [hG o h0 h1]; exact h3⟩
theorem RowF.peek {G : Nat → Obj} {lo hi : Nat} {v : AV} {g : List Nat} (h : RowF lo hi G v g) : ∃ ids, Go.Abs.peek G pkDepth v = some (natsIV g, ids) ∧ ∀ o ∈ ids, lo ≤ o ∧ o < hi := by
  rcases h with rfl | ⟨o, fr, h0, h1, rfl, h3⟩
  · exact ⟨[], rfl, fun _ h => by cases h⟩
  · refine ⟨[o], peek_row1 h3 (by simp), fun q hq => ?_⟩
    rw [List.mem_singleton] at hq; subst hq; exact ⟨h0, h1⟩
structure InIs (tos : List (List Nat)) (lo hi : Nat) (G : Nat → Obj) (ks : List Nat) (vs : List AV) : Prop where
  len : vs.length = ks.length
  row : ∀ (i k : Nat) (w : AV), ks[i]? = some k → vs[i]? = some w → RowF lo hi G w (grpR tos k)
theorem InIs.frame {tos : List (List Nat)} {lo hi hi' : Nat} {G G' : Nat → Obj} {ks : List Nat} {vs : List AV} (h : InIs tos lo hi G ks vs) (hh : hi ≤ hi') (hG : ∀ o, lo ≤ o → o < hi → G' o = G o) : InIs tos lo hi' G' ks vs :=
  ⟨h.len, fun i k w h1 h2 => (h.row i k w h1 h2).frame hh hG⟩
theorem findIdx_at' {s j : Nat} : ∀ {l : List Nat}, (l.findIdx? fun x => s == x) = some j → l[j]? = some s
  | l, h => by
    obtain ⟨h1, h2, _⟩ := List.findIdx?_eq_some_iff_getElem.1 h
    rw [List.getElem?_eq_getElem h1]
    simp only [beq_iff_eq] at h2
    rw [← h2]
theorem InIs.look {tos : List (List Nat)} {lo hi : Nat} {G : Nat → Obj} {ks : List Nat} {vs : List AV} (h : InIs tos lo hi G ks vs) {d : Nat} (hd : d ∈ ks) : ∃ w, lookIs (some ty3) (some ty30) (some (ks.map natIV, vs)) (natIV d) false w ∧ RowF lo hi G w (grpR tos d) := by
  have hc : ks.contains d = true := List.contains_iff_mem.2 hd
  rw [← findIdx_contains'] at hc
  obtain ⟨j, hj⟩ := Option.isSome_iff_exists.1 hc
  have hlt := findIdx_lt' hj
  obtain ⟨w, hw⟩ : ∃ w, vs[j]? = some w := at_lt (by rw [h.len]; exact hlt)
  refine ⟨w, ⟨rfl, .inl ⟨j, w, ?_, hw, rfl⟩⟩, h.row j d w (findIdx_at' hj) hw⟩
  rw [natKey, hj]
theorem InIs.miss {ks : List Nat} {vs : List AV} {d : Nat} (hd : d ∉ ks) : lookIs (some ty3) (some ty30) (some (ks.map natIV, vs)) (natIV d) false .nils := by
  refine ⟨rfl, .inr ⟨?_, rfl⟩⟩
  exact setNew (by rw [List.contains_eq_mem]; exact decide_eq_false hd)
structure RdyK (tos : List (List Nat)) (done ks : List Nat) (vs : List AV) (dp md ip mi db d lo hi : Nat) (G : Nat → Obj) (nx : Nat) : Prop where
  ub : dp < nx ∧ md < nx ∧ ip < nx ∧ mi < nx ∧ db < nx ∧ hi ≤ nx
  dp : G dp = .box [.map md] false
  md : G md = setObj done
  ip : G ip = .box [.map mi] false
  mi : G mi = .mp (ks.map natIV) vs false
  db : G db = .box [.imm (natIV d)] false
  ins : InIs tos lo hi G ks vs
theorem cal504 {tos : List (List Nat)} {done ks : List Nat} {vs : List AV} {dp md ip mi db d lo hi : Nat} (hdk : d ∈ ks) (hl : (grpR tos d).length ≤ 1000) (x : Nat) {G : Nat → Obj} {nx : Nat} (h : RdyK tos done ks vs dp md ip mi db d lo hi G nx) :
    Cal CC 204 [.imm (natIV x), .ptr dp 0, .ptr ip 0, .ptr db 0] G nx fun v G' nx' => v = .imm (.bool (!done.contains x && !(grpR tos d).contains x)) ∧ nx ≤ nx' ∧ ∀ o, o < nx → G' o = G o := by
  obtain ⟨w, hlk, hrow⟩ := h.ins.look hdk
  have hset := setLook done x
  have h438 := ret438 hl x
  have e1 := h.dp
  have e2 := h.md
  have e3 := h.ip
  have e4 := h.mi
  have e5 := h.db
  have hset' : lookIs (some ty3) (some ty4) (mapKV G (.map md)) (natIV x) false (.imm (.bool (done.contains x))) := by
    simp only [mapKV, e2, setObj]; exact hset
  have hlk' : lookIs (some ty3) (some ty30) (mapKV G (.map mi)) (natIV d) false w := by
    simp only [mapKV, e4]; exact hlk
  refine Cal.of (fn := Go.Proofs.Tryz.f204) (by kernel_rfl) rfl rfl ?_
  generalize done.contains x = z at *
  generalize (grpR tos d).contains x = y at *
  cases z with
  | true =>
    refine BN ?_
    exact W.retFin1 rfl ⟨rfl, by omega, fun _ _ => rfl⟩
  | false =>
    obtain ⟨ids, hp, _⟩ := hrow.peek
    refine BN ?_
    refine R.op0 (O.callG rfl (peeks_one hp (peeks_im peeks_nil)) h438 rfl) rfl ?_
    refine BN ?_
    exact W.retFin1 rfl ⟨rfl, by omega, fun _ _ => rfl⟩
theorem progR_good {p : Pgm} (h : progR p = true) : p.Good := by
  refine countR_good ?_
  unfold progR at h
  split at h
  · cases h
  · omega
theorem cal503 {p : Pgm} (hp : p.Fits) {done ks : List Nat} {vs : List AV} {pb dp md ip mi lo hi d : Nat} (hpr : progR p = true) (hd : d < p.defs.length) (hdk : d ∈ ks) {G : Nat → Obj} {nx : Nat} (hpb : pb < nx) (hP : G pb = .box [.imm (.lst (p.srcs.map sv)), .imm (.lst (p.defs.map Dfn.iv))] false)
    (hub : dp < nx ∧ md < nx ∧ ip < nx ∧ mi < nx ∧ hi ≤ nx) (e1 : G dp = .box [.map md] false) (e2 : G md = setObj done) (e3 : G ip = .box [.map mi] false) (e4 : G mi = .mp (ks.map natIV) vs false) (hin : InIs (tosR p) lo hi G ks vs) :
    Cal CC 203 [.imm (natIV d), .ptr pb 0, .ptr dp 0, .ptr ip 0] G nx fun v G' nx' => v = .imm (.bool (readyR (tosR p) done d)) ∧ nx ≤ nx' ∧ ∀ o, o < nx → G' o = G o := by
  have hg := progR_good hpr
  have hn : (tosR p).length = p.defs.length := hg.steps.2.1
  have hd6 := hg.defs
  have hh : hasR p (d : Int) = true := by
    unfold hasR
    rw [hpr, decide_eq_true (by omega), decide_eq_true (by omega)]; rfl
  have h15 := ret15 p hp (d : Int)
  have hra : reachA p (d : Int) = reachN p d := by unfold reachA; rw [if_pos hh, Int.toNat_natCast]
  rw [hra] at h15
  have hrl : (reachN p d).length ≤ 1000 := by
    unfold reachN
    have := List.length_filter_le (reachB (tosR p) d) (List.range p.defs.length)
    rw [List.length_range] at this
    omega
  have hgl : (grpR (tosR p) d).length ≤ 1000 := by
    have := nodup_lt (grp_nodup (tos := tosR p) d) (fun k hk => grp_lt hk)
    omega
  have hset : lookIs (some ty3) (some ty4) (mapKV (upd G (nx + 0) (.box [.imm (natIV d)] false)) (.map md)) (natIV d) false (.imm (.bool (done.contains d))) := by
    have : upd G (nx + 0) (.box [.imm (natIV d)] false) md = setObj done := by rw [upd_ne _ _ _ _ (by omega)]; exact e2
    simp only [mapKV, this, setObj]; exact setLook done d
  have hrdy : readyR (tosR p) done d = (!done.contains d && !(reachN p d).any fun k => !done.contains k && !(grpR (tosR p) d).contains k) := by
    unfold readyR reachN
    rw [hn, List.any_filter]
    congr 1
    rw [Bool.eq_iff_iff, List.all_eq_true, Bool.not_eq_true', List.any_eq_false]
    refine forall_congr' fun k => forall_congr' fun _ => ?_
    cases reachB (tosR p) d k <;> cases done.contains k <;> cases (grpR (tosR p) d).contains k <;> simp
  rw [hrdy]
  generalize srcsA p (d : Int) = sr at *
  generalize errR p (d : Int) = er at *
  generalize reachN p d = rl at *
  generalize tosR p = tos at *
  clear hrdy hra hh hn hg
  obtain ⟨srcs, defs⟩ := p
  simp only at hP
  refine Cal.of (fn := Go.Proofs.Tryz.f203) (by kernel_rfl) rfl rfl ?_
  generalize done.contains d = z at *
  cases z with
  | true =>
    refine BN ?_
    exact W.retFin1 rfl ⟨rfl, by omega, fun o ho => upd_ne _ _ _ _ (by omega)⟩
  | false =>
    have hc := fun (G1 : Nat → Obj) (nx1 : Nat) (h1 : nx + 1 ≤ nx1) (h2 : ∀ o, o < nx → G1 o = G o) (h3 : G1 (nx + 0) = .box [.imm (natIV d)] false) =>
      cal386 (f := 204) (cap := [.ptr dp 0, .ptr ip 0, .ptr (nx + 0) 0]) (P := fun k => !done.contains k && !(grpR tos d).contains k) (K := fun G2 nx2 => nx1 ≤ nx2 ∧ ∀ o, o < nx + 1 → G2 o = G1 o) rfl (fun _ _ _ h hh => ⟨by omega, h.2⟩) (l := rl) hrl
        (fun x _ G2 nx2 hK => (cal504 (tos := tos) (done := done) (ks := ks) (vs := vs) (md := md) (mi := mi) (d := d) (lo := lo) (hi := hi) hdk hgl x
          ⟨by omega, by rw [hK.2 _ (by omega), h2 _ (by omega)]; exact e1, by rw [hK.2 _ (by omega), h2 _ (by omega)]; exact e2, by rw [hK.2 _ (by omega), h2 _ (by omega)]; exact e3, by rw [hK.2 _ (by omega), h2 _ (by omega)]; exact e4, by rw [hK.2 _ (by omega)]; exact h3, hin.frame (Nat.le_refl _) fun o _ ho => by rw [hK.2 _ (by omega), h2 _ (by omega)]⟩).mono fun v G3 nx3 h => ⟨h.1, Nat.le_trans hK.1 h.2.1, fun o ho => by rw [h.2.2 o (Nat.lt_of_lt_of_le ho (Nat.le_trans h1 hK.1))]; exact hK.2 o ho⟩)
        (G := G1) (nx := nx1) ⟨Nat.le_refl _, fun _ _ => rfl⟩
    refine BN ?_
    refine R.callB rfl rfl rfl rfl rfl ((hc _ _ (by omega) (fun o ho => upd_ne _ _ _ _ (by omega)) (upd_same ..)).mono fun v G' nx' hv => ?_)
    obtain ⟨rfl, h1, h2⟩ := hv
    refine BN ?_
    refine W.retFin1 rfl ⟨rfl, by omega, fun o ho => ?_⟩
    rw [h2 o (by omega)]
    exact upd_ne _ _ _ _ (by omega)
end Go.Abs

/- Names: there is one that is none of some. -/
open Go Go.Abs
namespace Go.Abs
theorem wordN_zero : wordN 0 = [] := by rw [wordN]
theorem wordN_inj : ∀ n m, wordN n = wordN m → n = m := by
  intro n
  induction n using Nat.strongRecOn with
  | _ n ih =>
    intro m h
    cases n with
    | zero =>
      cases m with
      | zero => rfl
      | succ m => rw [wordN_zero, wordN_succ] at h; simp at h
    | succ n =>
      cases m with
      | zero => rw [wordN_zero, wordN_succ] at h; simp at h
      | succ m =>
        rw [wordN_succ, wordN_succ] at h
        have h1 := List.append_inj_left' h rfl
        have h2 := List.append_inj_right' h rfl
        have h3 := ih (n / 26) (by omega) _ h1
        have h4 : n % 26 = m % 26 := by
          have := congrArg UInt8.toNat (List.cons.inj h2).1
          simp only [UInt8.toNat_ofNat'] at this
          omega
        omega
theorem wordN_short : ∀ k n, n < 26 ^ k → (wordN n).length ≤ k
  | 0, n, h => by
    have : n = 0 := by simpa using h
    rw [this, wordN_zero]; simp
  | k + 1, n, h => by
    cases n with
    | zero => rw [wordN_zero]; simp
    | succ n =>
      rw [wordN_succ]
      have := wordN_short k (n / 26) (by rw [Nat.pow_succ] at h; omega)
      simp; omega
theorem wordN_low : ∀ n, lows (wordN n) = true := by
  intro n
  induction n using Nat.strongRecOn with
  | _ n ih =>
    cases n with
    | zero => rw [wordN_zero]; rfl
    | succ n =>
      have h := ih (n / 26) (by omega)
      have hc : ∀ r, r < 26 → okc (UInt8.ofNat (97 + r)) = true := by decide
      rw [wordN_succ]
      unfold lows at h ⊢
      rw [List.all_append, h, List.all_cons, hc _ (Nat.mod_lt _ (by omega))]
      rfl
theorem name_word {n : Nat} (h1 : 1 ≤ n) (h : n < 26 ^ 8) : nameOk (wordN n) = !kws.contains (wordN n) := by
  have h2 := wordN_short 8 n h
  have h3 : 0 < (wordN n).length := by
    cases n with
    | zero => omega
    | succ n => rw [wordN_succ]; simp
  rw [nameOk, wordN_low, decide_eq_true h3, decide_eq_true h2]
  simp
theorem nodup_len : ∀ (a b : List Str), a.Nodup → (∀ x ∈ a, x ∈ b) → a.length ≤ b.length
  | [], _, _, _ => Nat.zero_le _
  | x :: r, b, hn, hs => by
    rw [List.nodup_cons] at hn
    have hx := hs x (by simp)
    have h1 := nodup_len r (b.erase x) hn.2 (fun y hy => by
      have hne : y ≠ x := fun e => hn.1 (e ▸ hy)
      exact (List.mem_erase_of_ne hne).2 (hs y (by simp [hy])))
    rw [List.length_erase_of_mem hx] at h1
    have := List.length_pos_of_mem hx
    simp
    omega
theorem least_of {p : Nat → Bool} : ∀ n, p n = true → 1 ≤ n → ∃ m, 1 ≤ m ∧ m ≤ n ∧ p m = true ∧ ∀ k, 1 ≤ k → k < m → p k = false := by
  intro n
  induction n using Nat.strongRecOn with
  | _ n ih =>
    intro h hn
    by_cases hk : ∃ k, 1 ≤ k ∧ k < n ∧ p k = true
    · obtain ⟨k, h1, h2, h3⟩ := hk
      obtain ⟨m, a, b, c⟩ := ih k h2 h3 h1
      exact ⟨m, a, by omega, c⟩
    · exact ⟨n, hn, Nat.le_refl _, h, fun k h1 h2 => by
        cases e : p k with
        | false => rfl
        | true => exact absurd ⟨k, h1, h2, e⟩ hk⟩
theorem exists_first (l : List Str) (hl : l.length ≤ 1048576) : ∃ N, First l N := by
  have key : ∃ n, 1 ≤ n ∧ n ≤ l.length + 35 ∧ good l n = true := by
    refine Classical.byContradiction fun hno => ?_
    have h : ∀ n, 1 ≤ n → n ≤ l.length + 35 → wordN n ∈ kws ++ l := by
      intro n h1 h2
      have hg : good l n = false := by
        cases e : good l n with
        | false => rfl
        | true => exact absurd ⟨n, h1, h2, e⟩ hno
      rw [good, name_word h1 (by omega)] at hg
      rw [List.mem_append]
      cases hk : kws.contains (wordN n) with
      | true => exact .inl (by simpa using hk)
      | false =>
        rw [hk] at hg
        exact .inr (by simpa using hg)
    have h2 := nodup_len ((List.range (l.length + 35)).map fun i => wordN (i + 1)) (kws ++ l) (by
      rw [List.nodup_iff_pairwise_ne, List.pairwise_map]
      refine List.Pairwise.imp ?_ (List.nodup_iff_pairwise_ne.1 List.nodup_range)
      intro a b hab e
      have := wordN_inj _ _ e
      omega) (by
      intro x hx
      simp only [List.mem_map, List.mem_range] at hx
      obtain ⟨i, hi, rfl⟩ := hx
      exact h (i + 1) (by omega) (by omega))
    have hk : kws.length = 34 := rfl
    simp only [List.length_map, List.length_range, List.length_append, hk] at h2
    omega
  obtain ⟨n, h1, h2, h3⟩ := key
  obtain ⟨m, a, b, c, d⟩ := least_of (p := good l) n h3 h1
  exact ⟨m, a, c, d, by omega⟩
end Go.Abs

/- Programs with other names: the names, and expressions. -/
open Go Go.Abs
namespace Go.Abs
set_option maxRecDepth 100000
set_option maxHeartbeats 4000000
open Classical in
/-- The first name that is none of some. -/
noncomputable def freshOf (l : List Str) : Str := if h : l.length ≤ 1048576 then wordN (Classical.choose (exists_first l h)) else []
theorem allEs_mem {kids : List Exp} {c x : Exp} (h : c ∈ kids) (hx : x ∈ allE c) : x ∈ allEs kids := by
  induction kids with
  | nil => cases h
  | cons k r ih =>
    rw [allEs, List.mem_append]
    rcases List.mem_cons.1 h with rfl | h
    · exact .inl hx
    · exact .inr (ih h)
end Go.Abs

/- Programs with other names, as the reference makes them. -/
open Go Go.Abs
namespace Go.Abs
set_option maxRecDepth 100000
set_option maxHeartbeats 4000000
def oldN (p : Pgm) : List Str := p.srcs ++ p.defs.map Dfn.name
theorem progR_parts {p : Pgm} (h : progR p = true) : (oldN p).Nodup ∧ (1 ≤ p.srcs.length ∧ p.srcs.length ≤ 4) ∧ p.defs.length ≤ 6 ∧ (∀ d ∈ p.defs, d.exp.Sm) ∧ (∀ s ∈ oldN p, nameOk s = true) ∧ ∀ i d, p.defs[i]? = some d → ∀ x ∈ allE d.exp, NodeIs p.srcs (p.defs.map Dfn.name) i x := by
  have hc := progR_count h
  obtain ⟨h1, h2, h3, h4⟩ := countR_parts hc
  rw [h3] at h2 h4
  exact ⟨diff_nodup h2, ⟨h1.1, h1.2.1⟩, h1.2.2, countR_sm hc, fun s hs => diff_mem h2 hs, h4⟩
end Go.Abs

/- The lags of a formed program: its groups, one after the other; when a round changes nothing, all are done. -/
open Go Go.Abs
namespace Go.Abs
set_option maxRecDepth 100000
theorem NodeIs.nodeB {srcs defs : List Str} {ahead : Nat} {x : Exp} (h : NodeIs srcs defs ahead x) : NodeB x ∧ (x.op = 2 ∨ x.op = 3 → 0 ≤ x.n ∧ x.name ∈ defs) ∧ (x.op = 1 → x.name ∈ srcs) := by
  obtain ⟨s, h1, h2⟩ := h
  unfold headIs at h2
  simp only [Bool.and_eq_true, beq_iff_eq, inR, decide_eq_true_eq] at h2
  obtain ⟨⟨⟨⟨⟨_, h4⟩, _⟩, h6⟩, _⟩, h8⟩ := h2
  rcases ops15 x.op with h | h | h | h | h | h | h | h | h | h | h | h | h | h | h | h
  case inr.inr.inr.inr.inr.inr.inr.inr.inr.inr.inr.inr.inr.inr.inr =>
    obtain ⟨n1, n2, n3, n4, n5, n6, n7, n8, n9, n10, n11, n12, n13, n14, n15⟩ := h
    simp [shapeR, n1, n2, n3, n4, n5, n6, n7, n8, n9, n10, n11, n12, n13, n14, n15] at h1
  all_goals
    simp [shapeR, h] at h1
    subst h1
    simp only at h4 h6
    refine ⟨⟨by omega, by omega, by omega⟩, fun hop => ⟨by omega, ?_⟩, fun hop => ?_⟩
    all_goals first | (exfalso; omega) | skip
    all_goals
      unfold nameIs at h8
      rw [h] at h8
      simp at h8
      first | exact h8 | exact List.mem_of_mem_take h8
theorem expAt_at {p : Pgm} {d : Nat} {x : Dfn} (h : p.defs[d]? = some x) : expAt p d = x.exp := by unfold expAt; rw [h]
theorem progR_node {p : Pgm} (h : progR p = true) {d : Nat} (hd : d < p.defs.length) : ∀ x ∈ allE (expAt p d), NodeIs p.srcs (p.defs.map Dfn.name) d x := by
  obtain ⟨x, hx⟩ := at_lt hd
  rw [expAt_at hx]
  exact (progR_parts h).2.2.2.2.2 d x hx
theorem progR_small {p : Pgm} (h : progR p = true) : Small p where
  len := (progR_parts h).2.2.1
  srcs := (progR_parts h).2.1.2
  cnt := fun d => by
    cases hd : p.defs[d]? with
    | none => unfold expAt; rw [hd]; simp [allE, allEs]
    | some x =>
      rw [expAt_at hd]
      have := (progR_good h).size x (List.mem_of_getElem? hd); omega
  node := fun d hd x hx => (progR_node h hd x hx).nodeB.1
section
variable {tos : List (List Nat)}
theorem order_apart : ∀ (f : Nat) {done : List Nat}, DoneIs tos done → (done ++ (orderTo tos f done).flatten).Nodup
  | 0, done, h => by rw [orderTo, List.flatten_nil, List.append_nil]; exact h.nodup
  | f + 1, done, h => by
    rw [orderTo]
    cases hn : nextR tos done with
    | none => simp only [List.flatten_nil, List.append_nil]; exact h.nodup
    | some d =>
      have h1 := next_inv hn
      have := order_apart f (h.step h1.1 ((ready_iff.1 h1.2.1).1))
      simp only [List.flatten_cons]
      rwa [← List.append_assoc]
theorem order_is : ∀ (f : Nat) {done : List Nat}, ∀ g ∈ orderTo tos f done, ∃ d, d < tos.length ∧ g = grpR tos d
  | 0, _, g, h => by cases h
  | f + 1, done, g, h => by
    rw [orderTo] at h
    cases hn : nextR tos done with
    | none => rw [hn] at h; cases h
    | some d =>
      rw [hn] at h
      rcases List.mem_cons.1 h with rfl | h
      · exact ⟨d, (next_inv hn).1, rfl⟩
      · exact order_is f g h
theorem order_len : ∀ (f : Nat) {done : List Nat}, (orderTo tos f done).length ≤ f
  | 0, _ => by rw [orderTo]; exact Nat.le_refl _
  | f + 1, done => by
    rw [orderTo]
    cases nextR tos done with
    | none => exact Nat.zero_le _
    | some d => exact Nat.succ_le_succ (order_len f)
structure GrpIs (tos : List (List Nat)) (g : List Nat) : Prop where
  lt : ∀ d ∈ g, d < tos.length
  ne : ∃ f r, g = f :: r
  nodup : g.Nodup
  ring : ∀ d ∈ g, reachB tos d d = ringB tos g
  alone : ringB tos g = false → ∃ d, g = [d]
theorem order_grp {g : List Nat} (h : g ∈ orderR tos) : GrpIs tos g := by
  obtain ⟨d, hd, rfl⟩ := order_is _ g h
  obtain ⟨f, r, hfr⟩ : ∃ f r, grpR tos d = f :: r := by
    cases hg : grpR tos d with
    | nil => have := grp_self hd; rw [hg] at this; cases this
    | cons f r => exact ⟨f, r, rfl⟩
  have hring : ∀ k ∈ grpR tos d, reachB tos k k = reachB tos d d := fun k hk => by
    obtain ⟨_, h⟩ := (mem_grp hd).1 hk
    rcases h with rfl | ⟨h1, h2⟩
    · rfl
    · rw [reachB_iff.2 (h1.trans h2), reachB_iff.2 (h2.trans h1)]
  have hr : ringB tos (grpR tos d) = reachB tos d d := by
    rw [← hring f (hfr ▸ List.mem_cons_self ..), hfr]; rfl
  refine ⟨fun k hk => grp_lt hk, ⟨f, r, hfr⟩, grp_nodup d, fun k hk => by rw [hr]; exact hring k hk, fun h => ?_⟩
  rw [hr] at h
  exact ⟨d, grp_alone hd fun hc => by rw [reachB_iff.2 hc] at h; cases h⟩
end
theorem grp_end {p : Pgm} (hp : progR p = true) {g : List Nat} (hg : GrpIs (tosR p) g) {D : List (List Lg)} (hD : Wide p D) (h0 : ∀ d ∈ g, ∀ s, colD D s d = Lg.z) {m n : Nat} (hm : g.length ≤ m) (hn : g.length ≤ n) :
    rndsL p (ringB (tosR p) g) g m D = rndsL p (ringB (tosR p) g) g n D := by
  have hgd := progR_good hp
  have htl : (tosR p).length = p.defs.length := hgd.steps.2.1
  cases hr : ringB (tosR p) g with
  | true =>
    refine ring_end (fun d hd => by rw [← htl]; exact hg.lt d hd) (fun d hd x hx => ⟨?_, fun hop => ?_⟩) hD h0 hm hn
    · have hdl : d < p.defs.length := by rw [← htl]; exact hg.lt d hd
      have h1 := (progR_eq (progR_count hp)).1 hp d hdl (reachB_iff.1 (by rw [hg.ring d hd, hr]))
      obtain ⟨y, hy⟩ := at_lt hdl
      rw [expAt_at hy] at hx
      unfold foreAt at h1
      rw [hy] at h1
      simp only at h1
      unfold aheadE at h1
      rw [List.any_eq_false] at h1
      simpa using h1 x hx
    · exact ((progR_node hp (by rw [← htl]; exact hg.lt d hd) x hx).nodeB.2.1 hop).1
  | false =>
    obtain ⟨d, rfl⟩ := hg.alone hr
    have hdl : d < p.defs.length := by rw [← htl]; exact hg.lt d (List.mem_cons_self ..)
    have hx : ∀ x ∈ allE (expAt p d), x.op = 2 ∨ x.op = 3 → idxN (p.defs.map Dfn.name) x.name ≠ d := fun x hx hop he => by
      have hnr : reachB (tosR p) d d = false := by rw [hg.ring d (List.mem_cons_self ..), hr]
      refine Bool.false_ne_true (hnr.symm.trans (reachB_iff.2 (.one ?_)))
      obtain ⟨y, hy⟩ := at_lt hdl
      rw [hgd.tos.at' d y hy]
      unfold stepsN
      rw [List.mem_map]
      refine ⟨x, List.mem_filter.2 ⟨by rwa [expAt_at hy] at hx, ?_⟩, ?_⟩
      · unfold namesDef
        rcases hop with h | h <;> rw [h] <;> rfl
      · rw [(countR_parts (progR_count hp)).2.2.1]; exact he
    simp only [List.length_cons, List.length_nil] at hm hn
    rw [one_end hdl hx hD hm, one_end hdl hx hD hn]
theorem grp_still {p : Pgm} (hp : progR p = true) {g : List Nat} (hg : GrpIs (tosR p) g) {D : List (List Lg)} (hD : Wide p D) (h0 : ∀ d ∈ g, ∀ s, colD D s d = Lg.z) {r n : Nat} (hn : g.length ≤ n)
    (h : rndL p (ringB (tosR p) g) g (rndsL p (ringB (tosR p) g) g r D) = rndsL p (ringB (tosR p) g) g r D) : rndsL p (ringB (tosR p) g) g r D = rndsL p (ringB (tosR p) g) g n D := by
  have h1 := rnds_still h (m := max r n) (by omega)
  rw [← h1]
  exact grp_end hp hg hD h0 (by omega) hn
theorem grp_must {p : Pgm} (hp : progR p = true) {g : List Nat} (hg : GrpIs (tosR p) g) {D : List (List Lg)} (hD : Wide p D) (h0 : ∀ d ∈ g, ∀ s, colD D s d = Lg.z) {r : Nat} (hr : g.length ≤ r) :
    rndL p (ringB (tosR p) g) g (rndsL p (ringB (tosR p) g) g r D) = rndsL p (ringB (tosR p) g) g r D := by
  rw [show rndL p (ringB (tosR p) g) g (rndsL p (ringB (tosR p) g) g r D) = rndsL p (ringB (tosR p) g) g (r + 1) D from rfl]
  exact grp_end hp hg hD h0 (by omega) hr
end Go.Abs
