/- The logic: ends of drawn regions at any addresses; slices of rows; rows as data. -/
import Derived.Test.YtbdoijpclmhbaaaGreatPart2
import Derived.Test.YtbdoijpclmhbaaaGreatProg
import Derived.KernelRfl
import Derived.Laws.Strings
import Derived.Below
import Derived.Laws.AppendOwn
import Derived.Laws.Cells
import Derived.Laws.Rows
import Derived.Laws.Alloc2
import Derived.Laws.Entries
import Derived.Laws.Append
import Derived.Laws.MakeOwn
namespace Go.Abs
variable {C : Cfg} {fid nt : Nat} {l : Env} {G : Nat → Obj} {nx : Nat} {df : List (AV × List AV)} {pk : Pk} {Φ : Out → Prop} {a b : Code} {id : Nat}
variable {ol r : List Oper} {base i d : Nat} {ty : TypeId} {pos : String} {af : Array Edge} {v : AV} {ups : List (Nat × U)}
def gN (ads : List Nat) (k : Nat) : Nat := ads.getD (k - 1) 0
theorem gN_inj {ads : List Nat} (hn : ads.Nodup) {w x : Nat} (hw : 1 ≤ w ∧ w ≤ ads.length) (hx : 1 ≤ x ∧ x ≤ ads.length) (he : gN ads w = gN ads x) : w = x := by
  unfold gN at he
  rw [List.getD_eq_getElem?_getD, List.getD_eq_getElem?_getD, List.getElem?_eq_getElem (by omega), List.getElem?_eq_getElem (by omega)] at he
  simp only [Option.getD_some] at he
  rcases Nat.lt_trichotomy w x with h | h | h
  · exact absurd he (List.pairwise_iff_getElem.1 hn _ _ (by omega) (by omega) (by omega))
  · exact h
  · exact absurd he.symm (List.pairwise_iff_getElem.1 hn _ _ (by omega) (by omega) (by omega))
theorem D.skipN' {fs : List Fp} (ads : List Nat) (hn : ads.Nodup) (fs0 : List Fp) (hfs : fs.reverse = fs0.map (Fp.ren (gN ads))) (hb : ((fpWrs fs0 ++ fpAddrs fs0).all fun w => decide (1 ≤ w) && decide (w ≤ ads.length)) = true)
    (hk : (drawOK ⟨ol⟩ fs0 && edgesOK ⟨ol⟩) = true) (h : W C 0 nt .skip l G nx df pk Φ) : D C nt ol base i [] l G nx df pk fs Φ :=
  D.skip (by
    rw [hfs, drawOK_ren fun w hw x hx he => ?_]
    · exact hk
    · have h1 := List.all_eq_true.1 hb w (List.mem_append_left _ hw)
      have h2 := List.all_eq_true.1 hb x (List.mem_append_right _ hx)
      simp only [Bool.and_eq_true, decide_eq_true_eq] at h1 h2
      exact gN_inj hn h1 h2 he) h
theorem touch_imms (k : Nat) (xs : List IV) : (xs.map AV.imm).flatMap (touch G k) = [] := by
  induction xs with
  | nil => rfl
  | cons x r ih => rw [List.map_cons, List.flatMap_cons, ih]; cases k <;> rfl
theorem touch_row {o n et sz : Nat} {xs : List IV} {fr : Bool} (h : G o = .row et sz (xs.map .imm) fr) : touch G pkDepth (.row o n) = [o] := by
  show touch G (99 + 1) _ = _
  unfold touch
  rw [h]
  dsimp only
  rw [touch_imms]
theorem peek_row1 {o n et sz : Nat} {xs : List IV} {fr : Bool} (h : G o = .row et sz (xs.map .imm) fr) (hn : xs.length = n) : Go.Abs.peek G pkDepth (.row o n) = some (.lst xs, [o]) := by
  have hp : ∀ x, Go.Abs.peek G 99 (.imm x) = some (x, []) := fun x => rfl
  show Go.Abs.peek G (99 + 1) _ = _
  unfold Go.Abs.peek
  rw [h]
  dsimp only
  rw [if_pos (by simpa using hn), peekL_imm hp]
theorem peeks_nil : peeks G [] = some ([], []) := rfl
theorem peeks_one {v : AV} {x : IV} {ids ids2 : List Nat} {vs : List AV} {xs : List IV} (h : Go.Abs.peek G pkDepth v = some (x, ids)) (hr : peeks G vs = some (xs, ids2)) : peeks G (v :: vs) = some (x :: xs, ids ++ ids2) := by
  unfold peeks at hr ⊢
  rw [peekL, h, hr]
theorem peeks_im {x : IV} {ids2 : List Nat} {vs : List AV} {xs : List IV} (hr : peeks G vs = some (xs, ids2)) : peeks G (.imm x :: vs) = some (x :: xs, ids2) := peeks_one (ids := []) rfl hr
theorem boundE_at {l : Env} {n d t i : Nat} {k : IntKind} {j : Int} (h : look l t = some (.imm (.int k j))) (hj : j = (i : Int)) (hi : i ≤ n) : boundE l n d (some (.tmp t)) = some i := by
  subst hj
  simp only [boundE, lookO, h]
  rw [if_pos ⟨Int.natCast_nonneg _, by omega⟩, Int.toNat_natCast]
theorem frz_at {q o : Nat} {G : Nat → Obj} : updL G (frz [q]) o = if o = q then (G q).freeze else G o := by
  show upd G q ((G q).freeze) o = _
  unfold upd; rfl
theorem touch_im {G : Nat → Obj} (x : IV) : touch G pkDepth (.imm x) = [] := rfl
theorem D.gen' {fs : List Fp} (P : (Nat → Obj) → Prop) (h0 : P G) (h : ∀ G, P G → D C nt ol base i r l G nx df pk fs Φ) : D C nt ol base i r l G nx df pk fs Φ := h _ h0
theorem frz2_at {q q2 o : Nat} {G : Nat → Obj} (hq : q2 ≠ q) : updL G (frz [q, q2]) o = if o = q ∨ o = q2 then (G o).freeze else G o := by
  show upd (upd G q ((G q).freeze)) q2 ((upd G q ((G q).freeze) q2).freeze) o = _
  rw [upd_ne _ _ _ _ hq]
  unfold upd
  by_cases h1 : o = q2
  · subst h1; simp
  · by_cases h2 : o = q
    · subst h2; simp [h1]
    · simp [h1, h2]
/-! what is read may be said to be more -/
theorem any_or_le {xs ys : List Nat} (h : ∀ x ∈ xs, x ∈ ys) (x : Nat) (hx : xs.contains x = true) : ys.contains x = true := by
  simp at hx ⊢; exact h x hx
theorem clash_le1 {a : Fp} {rd' : List Nat} {b : Fp} (h : ∀ x ∈ a.rd, x ∈ rd') (hc : clash { a with rd := rd' } b = false) : clash a b = false := by
  unfold clash at hc ⊢
  rw [Bool.or_eq_false_iff] at hc ⊢
  refine ⟨hc.1, ?_⟩
  have h2 := hc.2
  rw [List.any_eq_false] at h2 ⊢
  intro x hx he
  refine h2 x hx ?_
  rw [Bool.or_eq_true] at he ⊢
  rcases he with he | he
  · exact .inl (any_or_le h x he)
  · exact .inr he
theorem clash_le2 {a b : Fp} {rd' : List Nat} (h : ∀ x ∈ b.rd, x ∈ rd') (hc : clash a { b with rd := rd' } = false) : clash a b = false := by
  unfold clash at hc ⊢
  rw [Bool.or_eq_false_iff] at hc ⊢
  refine ⟨?_, hc.2⟩
  have h1 := hc.1
  rw [List.any_eq_false] at h1 ⊢
  intro x hx he
  refine h1 x hx ?_
  rw [Bool.or_eq_true, Bool.or_eq_true] at he ⊢
  rcases he with (he | he) | he
  · exact .inl (.inl (any_or_le h x he))
  · exact .inl (.inr he)
  · exact .inr he
theorem clearOf_le1 {ops : Array Oper} {a : Fp} {rd' : List Nat} (h : ∀ x ∈ a.rd, x ∈ rd') : ∀ fs : List Fp, clearOf ops { a with rd := rd' } fs = true → clearOf ops a fs = true
  | [], _ => rfl
  | b :: r, hc => by
    unfold clearOf at hc ⊢
    rw [Bool.and_eq_true] at hc ⊢
    refine ⟨?_, clearOf_le1 h r hc.2⟩
    have h1 := hc.1
    rw [Bool.or_eq_true, Bool.and_eq_true] at h1 ⊢
    rcases h1 with h1 | ⟨h1, h2⟩
    · exact .inl h1
    · exact .inr ⟨by rw [clash_le1 h (by simpa using h1)]; rfl, h2⟩
theorem clearOf_le2 {ops : Array Oper} {a c : Fp} {rd' : List Nat} (h : ∀ x ∈ c.rd, x ∈ rd') {B : List Fp} : ∀ A : List Fp, clearOf ops a (A ++ { c with rd := rd' } :: B) = true → clearOf ops a (A ++ c :: B) = true
  | [], hc => by
    simp only [List.nil_append] at hc ⊢
    unfold clearOf at hc ⊢
    rw [Bool.and_eq_true] at hc ⊢
    refine ⟨?_, hc.2⟩
    have h1 := hc.1
    rw [Bool.or_eq_true, Bool.and_eq_true] at h1 ⊢
    rcases h1 with h1 | ⟨h1, h2⟩
    · exact .inl h1
    · exact .inr ⟨by rw [clash_le2 h (by simpa using h1)]; rfl, h2⟩
  | b :: A, hc => by
    rw [List.cons_append] at hc ⊢
    unfold clearOf at hc ⊢
    rw [Bool.and_eq_true] at hc ⊢
    exact ⟨hc.1, clearOf_le2 h A hc.2⟩
theorem drawOK_le {ops : Array Oper} {c : Fp} {rd' : List Nat} (h : ∀ x ∈ c.rd, x ∈ rd') {B : List Fp} : ∀ A : List Fp, drawOK ops (A ++ { c with rd := rd' } :: B) = true → drawOK ops (A ++ c :: B) = true
  | [], hc => by
    simp only [List.nil_append] at hc ⊢
    unfold drawOK at hc ⊢
    rw [Bool.and_eq_true] at hc ⊢
    exact ⟨clearOf_le1 h B hc.1, hc.2⟩
  | b :: A, hc => by
    rw [List.cons_append] at hc ⊢
    unfold drawOK at hc ⊢
    rw [Bool.and_eq_true] at hc ⊢
    exact ⟨clearOf_le2 h A hc.1, drawOK_le h A hc.2⟩
theorem D.more {fs : List Fp} {j : Nat} {rd rd' wr fz : List Nat} (h : ∀ x ∈ rd, x ∈ rd') (hd : D C nt ol base i r l G nx df pk (⟨j, rd', wr, fz⟩ :: fs) Φ) : D C nt ol base i r l G nx df pk (⟨j, rd, wr, fz⟩ :: fs) Φ := .mk fun t ht => by
  obtain ⟨n, s', fs', h1, h2, h3⟩ := hd.st t ht
  refine ⟨n, s', fs', h1, ?_, h3⟩
  rw [Bool.and_eq_true] at h2 ⊢
  refine ⟨?_, h2.2⟩
  rw [List.reverse_cons, List.append_assoc] at h2 ⊢
  exact drawOK_le (c := ⟨j, rd, wr, fz⟩) h fs.reverse h2.1
theorem D.app2 {x y : Operand} {t u e e' lo hi q sz sz' : Nat} {k ke : TyI} {xs : List IV} {z : IV} {fr : Bool} {fs : List Fp} {G0 : Nat → Obj} (ho : Own e sz lo hi xs G0 v) (hq : G q = .row e' sz' [.imm z] fr) [hk : TyIs C t k] (hm : xs.length + 1 ≤ most)
    (next : ∀ v' G' o', Own e sz lo nx (xs ++ [z]) G' v' → (∀ o, o < lo → G' o = G o) → (∀ o, o ≠ o' → G' o = G o) → lo ≤ o' → (o' < hi ∨ o' = base + i) → D C nt ol base (i + 1) r ((d, v') :: l) G' nx df pk (⟨i, [o', q], [o'], []⟩ :: fs) Φ)
    (ht : k.d = .sl e := by exact rfl) (he : TyIs C e ke := by infer_instance) (hsz : sz = ke.sz := by exact rfl) (hu : Nat.beq t u = true := by exact rfl) (hx : lookO l x = some v := by exact rfl) (hy : lookO l y = some (.row q 1) := by exact rfl)
    (hG : ∀ o, lo ≤ o → o < hi → G o = G0 o := by intro o _ _; exact at_upd) (hf : (AV.imm z).fits sz = true := by first | exact rfl | assumption) (hs : 0 < ke.sz := by decide) (hb : ke.bytes ≤ 4096 := by decide) (hz : ke.zero.fits ke.sz = true := by exact rfl) (hid : lo ≤ base + i ∧ base + i < nx ∧ base + i ≠ q := by omega)
    (hhi : hi ≤ nx ∧ hi ≤ q := by omega) (hd : Nat.ble (d + 1) nt = true := by exact rfl) :
    D C nt ol base i (⟨some d, .call { callee := .builtin .append, args := #[x, y], argTypes := #[t, u] }, ty, pos, af, none⟩ :: r) l G nx df pk fs Φ := by
  subst hsz
  have hrd : rdE l G (.call { callee := .builtin .append, args := #[x, y], argTypes := #[t, u] }) = some ([v, .row q 1].flatMap direct) := by
    simp only [rdE, pureOp, looks, hx, hy]
  have hys : ([z].map AV.imm).all (AV.fits ke.sz) = true := by simp [hf]
  have hw : elems G (.row q 1) = some ([z].map AV.imm) := elems_row hq rfl
  rcases ho with ⟨rfl, rfl⟩ | ⟨o, h1, h2, rfl, hG2⟩
  · refine D.op1 (O.appNil (hk := hk) (he := he) ht hu hx hy hw hs hb hz hys (by simp [most])) hrd hd (D.more (rd' := [base + i, q]) (by simp [direct]) (next _ _ _ (.inr ⟨base + i, hid.1, hid.2.1, by simp, by rw [upd_same]; simp⟩) (fun o ho => upd_ne _ _ _ _ (by omega)) (fun o ho => upd_ne _ _ _ _ ho) hid.1 (.inr rfl)))
  · refine D.op1 (O.appRow (hk := hk) (he := he) ht hu hx ((hG o h1 h2).trans hG2) (by simp) hy hw hs hb hz hys (by simpa using hm)) hrd hd (D.more (rd' := [o, q]) (by simp [direct]) (next _ _ _ (.inr ⟨o, h1, by omega, by simp, by rw [upd_same]; simp⟩) (fun o' ho' => upd_ne _ _ _ _ (by omega)) (fun o' ho' => upd_ne _ _ _ _ ho') h1 (.inl h2)))
theorem O.sliceG {x : Operand} {t e : TypeId} {lo hi : Option Operand} {k ke : TyI} {w : AV} {xs : List IV} {ids : List Nat} {m n : Nat} [hk : TyIs C t k] (ht : k.d = .sl e) [he : TyIs C e ke] (hx : lookO l x = some w) (hp : Go.Abs.peek G pkDepth w = some (.lst xs, ids))
    (hh : boundE l xs.length xs.length hi = some n) (hl : boundE l n 0 lo = some m) (hc : (xs.all fun y => y.cells.length == ke.sz) = true) :
    OpV C id l G nx df pk (.slice t x lo hi none) (.imm (.lst ((xs.take n).drop m))) (frz ids) :=
  O.of fun t' L hA => by
    simp only [opA, hA.ev hx, aSlice, hk.is, ht, hp, he.is]
    simp only [boundE_ok hA hh, boundE_ok hA hl, hc, if_true]
    rfl
theorem O.min {x y : Operand} {t u : TypeId} {m n : Int} {k : IntKind} (hx : lookO l x = some (.imm (.int k m))) (hy : lookO l y = some (.imm (.int k n))) : OpV C id l G nx df pk (.call { callee := .builtin .min, args := #[x, y], argTypes := #[t, u] }) (.imm (.int k (if n < m then n else m))) [] :=
  O.of fun t' L hA => by simp only [opA, List.map_cons, List.map_nil, hA.ev hx, hA.ev hy, aBuiltin]
theorem O.loadRA {x : Operand} {t et : TypeId} {k : TyI} {o m n sz : Nat} {xs us : List AV} {fr : Bool} {u : AV} [hk : TyIs C t k] (hx : lookO l x = some (.rptr o m n 0)) (hG : G o = .row et sz xs fr) (hm : xs.length = m) (hu : xs[n]? = some u)
    (hc : Go.Abs.sub u.cells 0 k.sz = some us) (hg : k.d.isAgg = true) : OpV C id l G nx df pk (.load t x) (mkAgg us) [] :=
  O.of fun t L hA => by simp [opA, hA.ev hx, aLoad, hk.is, hg, readAt, hG, hm, hu, hc]
end Go.Abs

/- The seat: the program's types, its functions that are called by reference, and those with a contract. -/
open Go Go.Abs
namespace Go.Abs
def byrefs : Nat → Bool := fun f => [162,163,106,131,132,134,133,175,107,129,102].contains f
def ints : List IV → List Int
  | [] => []
  | .int _ n :: r => n :: ints r
  | _ :: r => ints r
def ins (x : Int) : List Int → List Int
  | [] => [x]
  | y :: r => if x ≤ y then x :: y :: r else y :: ins x r
def isort : List Int → List Int
  | [] => []
  | x :: r => ins x (isort r)
def isStrIV : IV → Bool
  | .str _ => true
  | _ => false
def isIntIV : IV → Bool
  | .int .i64 _ => true
  | _ => false
def orcs : Nat → List IV → Option OrcR
  | 50, [.lst xs] => if xs.all isStrIV = true ∧ xs.length ≤ 4294967296 then some (.own 9 1 xs) else none
  | 69, [.fmp ks _] => if ks.all isIntIV = true ∧ ks.length ≤ 4294967296 then some (.own 3 1 ((isort (ints ks)).map (.int .i64))) else none
  | _, _ => none
def odds : Nat → Option (Nat → Bool) := fun f => if f == 900000 || f == 116 then some fun g => g == 48 else none
noncomputable def CC : Cfg := { P := Go.Proofs.Tryz.prog, byref := byrefs, orc := orcs, odd := odds }
def ty3 : TyI := { d := TyD.int IntKind.i64, sz := 1, bytes := 8, zero := AV.imm (IV.int IntKind.i64 (0)) }
instance tyis3 : TyIs CC 3 ty3 := ⟨by kernel_rfl⟩
def ty4 : TyI := { d := TyD.bool, sz := 1, bytes := 1, zero := AV.imm (IV.bool false) }
instance tyis4 : TyIs CC 4 ty4 := ⟨by kernel_rfl⟩
def ty5 : TyI := { d := TyD.int IntKind.u8, sz := 1, bytes := 1, zero := AV.imm (IV.int IntKind.u8 (0)) }
instance tyis5 : TyIs CC 5 ty5 := ⟨by kernel_rfl⟩
def ty9 : TyI := { d := TyD.str, sz := 1, bytes := 16, zero := AV.imm (IV.str { data := { toList := [] } }) }
instance tyis9 : TyIs CC 9 ty9 := ⟨by kernel_rfl⟩
def ty22 : TyI := { d := TyD.sl 9, sz := 1, bytes := 24, zero := AV.nils }
instance tyis22 : TyIs CC 22 ty22 := ⟨by kernel_rfl⟩
def ty61 : TyI := { d := TyD.mp 9 4, sz := 1, bytes := 8, zero := AV.imm IV.nilmap }
instance tyis61 : TyIs CC 229 ty61 := ⟨by kernel_rfl⟩
def ty103 : TyI := { d := TyD.sl 5, sz := 1, bytes := 24, zero := AV.nils }
instance tyis103 : TyIs CC 228 ty103 := ⟨by kernel_rfl⟩
noncomputable def retOf (C : Cfg) (n : Nat) (f : FuncId) (ivs : List IV) : Option IV := match (low C n).call f (ivs.map .imm) .no (fun _ => .gone) 0 with
  | some (.ret v G' _, _) => match peek G' pkDepth v with
    | some (x, _) => some x
    | none => none
  | _ => none
theorem Ret.reckon {n : Nat} {f : FuncId} {ivs : List IV} {x : IV} {C : Cfg} (h : retOf C n f ivs = some x) : Ret C f ivs x := by
  unfold retOf at h
  split at h
  · rename_i v G' nx' pk' hc
    split at h
    · rename_i y ids hp
      cases h
      exact ⟨n, v, G', nx', pk', ids, hc, hp⟩
    · cases h
  · cases h
/-! strings, as lists of their bytes -/
abbrev Str := List UInt8
def sv (s : Str) : IV := .str ⟨s.toArray⟩
theorem sv_size (s : Str) : (ByteArray.mk s.toArray).size = s.length := by simp [ByteArray.size]
theorem sv_toList (s : Str) : (ByteArray.mk s.toArray).toList = s := by rw [ByteArray.toList_eq]
theorem sv_get (s : Str) (i : Nat) : (ByteArray.mk s.toArray).data.getD i 0 = s.getD i 0 := by simp
theorem sv_eta (b : ByteArray) : IV.str b = sv b.data.toList := by cases b; simp [sv]
theorem sv_beq (a b : Str) : ((ByteArray.mk a.toArray) == (ByteArray.mk b.toArray)) = (a == b) := by
  show (a.toArray == b.toArray) = (a == b)
  simp
theorem sv_append (a b : Str) : (ByteArray.mk a.toArray) ++ (ByteArray.mk b.toArray) = ByteArray.mk (a ++ b).toArray := by
  apply ByteArray.ext
  simp
variable {C : Cfg} {l : Env} {G : Nat → Obj} {nx : Nat} {df : List (AV × List AV)} {pk : Pk} {id : Nat}
theorem O.svEq {t : TypeId} {x y : Operand} {t2 : TypeId} {a b : Str} (hx : lookO l x = some (.imm (sv a))) (hy : lookO l y = some (.imm (sv b))) : OpV C id l G nx df pk (.binOp .eql t x y t2) (.imm (.bool (a == b))) [] :=
  O.str hx hy (by simp only [strOp, sv_toList])
theorem O.svNe {t : TypeId} {x y : Operand} {t2 : TypeId} {a b : Str} (hx : lookO l x = some (.imm (sv a))) (hy : lookO l y = some (.imm (sv b))) : OpV C id l G nx df pk (.binOp .neq t x y t2) (.imm (.bool !(a == b))) [] :=
  O.str hx hy (by simp only [strOp, sv_toList])
theorem O.svAdd {t : TypeId} {x y : Operand} {t2 : TypeId} {a b : Str} (hx : lookO l x = some (.imm (sv a))) (hy : lookO l y = some (.imm (sv b))) (h : a.length + b.length ≤ 9223372036854775807) : OpV C id l G nx df pk (.binOp .add t x y t2) (.imm (sv (a ++ b))) [] :=
  O.str hx hy (by simp only [strOp, sv_size, if_pos h, sv_append, sv])
theorem O.lenSv {x : Operand} {t : TypeId} {k : TyI} [hk : TyIs C t k] {s : Str} (hx : lookO l x = some (.imm (sv s))) (hl : k.d = .str) : OpV C id l G nx df pk (.call { callee := .builtin .len, args := #[x], argTypes := #[t] }) (.imm (.int .i64 s.length)) [] := by
  have := O.lenS (C := C) (t := t) (id := id) (G := G) (nx := nx) (df := df) (pk := pk) hx hl
  rwa [sv_size] at this
theorem O.indexSv {x y : Operand} {t : TypeId} {k : TyI} {kk : IntKind} {s : Str} {n : Nat} {c : UInt8} [hk : TyIs C t k] (ht : k.d = .str) (hx : lookO l x = some (.imm (sv s))) (hy : lookO l y = some (.imm (.int kk n))) (hn : s[n]? = some c) :
    OpV C id l G nx df pk (.index t x y) (.imm (.int .u8 c.toNat)) [] := by
  have h1 : n < s.length := by
    rw [List.getElem?_eq_some_iff] at hn; exact hn.1
  have := O.index (C := C) (t := t) (id := id) (G := G) (nx := nx) (df := df) (pk := pk) ht hx hy ⟨Int.natCast_nonneg _, by rw [sv_size]; omega⟩
  rw [sv_get] at this
  have e : s.getD n 0 = c := by rw [List.getD_eq_getElem?_getD, hn]; rfl
  rwa [Int.toNat_natCast, e] at this
def keyAt (k : IV) (ks vs : List IV) (z : IV) : Option IV := match keyFind k ks with
  | some (some j) => vs[j]?
  | some none => some z
  | none => none
theorem O.lookF {t kt e : TypeId} {m x : Operand} {k kk ke : TyI} {key z : IV} {ks vs : List IV} {u : IV} [hk : TyIs C t k] (ht : k.d = .mp kt e) [hkk : TyIs C kt kk] [hke : TyIs C e ke] (hm : lookO l m = some (.imm (.fmp ks vs))) (hx : lookO l x = some (.imm key)) (ho : keyOk kk.d key = true)
    (hz : ke.zero = .imm z) (hu : keyAt key ks vs z = some u) : OpV C id l G nx df pk (.lookup t m x false) (.imm u) [] := by
  refine O.of fun t' L hA => ?_
  unfold keyAt at hu
  simp only [opA, hA.ev hm, hA.ev hx, Go.Abs.lookA, hk.is, ht, mapKV, hkk.is, if_pos ho]
  split at hu
  · rename_i j hj
    simp only [hj, List.getElem?_map, hu, Option.map_some]
    rfl
  · rename_i hj
    cases hu
    simp only [hj, hke.is, hz]
    rfl
  · cases hu
end Go.Abs

/- One step of the logic after the other, as far as it goes. -/
open Go Go.Abs
namespace Go.Abs
set_option maxRecDepth 100000
structure Hold (Q : Prop) : Prop where
  out : Q
variable {C : Cfg} {id : Nat} {l : Env} {G : Nat → Obj} {nx : Nat} {df : List (AV × List AV)} {pk : Pk}
theorem O.addrX {x y : Operand} {t e : TypeId} {k ke : TyI} {xs : List IV} {kk : IntKind} {n : Int} {u : IV} [hk : TyIs C t k] (ht : k.d = .sl e) (he : TyIs C e ke) (hx : lookO l x = some (.imm (.lst xs))) (hy : lookO l y = some (.imm (.int kk n)))
    (h0 : 0 ≤ n) (hu : xs[n.toNat]? = some u) (hs : u.cells.length = ke.sz) : OpV C id l G nx df pk (.indexAddr t x y) (.imm (.eptr xs n.toNat 0)) [] := O.addrL ht hx hy h0 hu hs
variable {fid nt : Nat} {Φ : Out → Prop} {b : Code}
theorem W.unseq {a : Code} (h : W C fid nt (.seq a b) l G nx df pk Φ) : W C fid nt a l G nx df pk (aft C fid nt b Φ) := by
  refine .mk fun t ht => ?_
  obtain ⟨n, o, h1, h2⟩ := h.st t ht
  unfold code at h1
  cases hc : code C (low C n) n fid nt a ⟨t, G, nx, df, pk⟩ with
  | none => rw [hc] at h1; cases h1
  | some o' =>
    rw [hc] at h1
    cases o' with
    | norm s => exact ⟨n, _, hc, n, o, h1, h2⟩
    | _ => cases h1; exact ⟨n, _, hc, h2⟩
theorem W.seqR {k : Nat} {ol : Array Oper} {dr : Bool} (h : W C fid nt (.region k ol dr) l G nx df pk (aft C fid nt b Φ)) : W C fid nt (.seq (.region k ol dr) b) l G nx df pk Φ := W.seq h
theorem W.seqC {c : Operand} {a a' : Code} (h : W C fid nt (.cond c a a') l G nx df pk (aft C fid nt b Φ)) : W C fid nt (.seq (.cond c a a') b) l G nx df pk Φ := W.seq h
theorem O.addrRX {x y : Operand} {t e et : TypeId} {k ke : TyI} {o m sz : Nat} {xs : List AV} {fr : Bool} {kk : IntKind} {n : Int} [hk : TyIs C t k] (ht : k.d = .sl e) (he : TyIs C e ke) (hx : lookO l x = some (.row o m)) (hy : lookO l y = some (.imm (.int kk n)))
    (hG : G o = .row et sz xs fr) (hm : xs.length = m) (h0 : 0 ≤ n ∧ n < m) (hs : sz = ke.sz) : OpV C id l G nx df pk (.indexAddr t x y) (.rptr o m n.toNat 0) [] := O.addrR ht hx hy hG hm h0 hs
theorem O.loadRX {x : Operand} {t et : TypeId} {k : TyI} {o m n sz : Nat} {xs : List AV} {fr : Bool} {u : AV} [hk : TyIs C t k] (hx : lookO l x = some (.rptr o m n 0)) (hG : G o = .row et sz xs fr) (hm : xs.length = m) (hu : xs[n]? = some u) (hc : u.cells = [u]) (hg : k.d.isAgg = false) (hs : k.sz = 1) :
    OpV C id l G nx df pk (.load t x) u [] := O.loadR hx hG hm hu hc hg hs
theorem O.boolNe {t : TypeId} {x y : Operand} {t2 : TypeId} {m n : Bool} {k : TyI} [hk : TyIs C t k] (hb : k.d = .bool) (hx : lookO l x = some (.imm (.bool m))) (hy : lookO l y = some (.imm (.bool n))) : OpV C id l G nx df pk (.binOp .neq t x y t2) (.imm (.bool (!(m == n)))) [] :=
  O.of fun t L ht => by simp only [opA, ht.ev hx, ht.ev hy, binA, eqAV, hk.is, hb, eqOp, Option.map_some]
theorem SB {P Q : Prop} (k : Q) (h : Hold Q → P := by
  intro k
  (repeat (first | (apply R.op0; (first | exact O.move rfl | exact O.assign rfl | exact O.fieldP rfl rfl rfl rfl | exact O.loadP rfl rfl rfl (by first | rfl | assumption) rfl | exact O.cmp rfl rfl rfl | exact O.int rfl rfl (add64 (by omega)) | exact O.int rfl rfl (sub64 (by omega)) | exact O.int rfl rfl (add8 (by omega)) | exact O.pickT rfl (by first | with_reducible rfl | with_reducible assumption | decide) rfl | exact O.pickF rfl (by first | with_reducible rfl | with_reducible assumption | decide) rfl | exact O.lenL rfl rfl | exact O.lenSv rfl rfl | exact O.lenS rfl rfl | exact O.not rfl | exact O.svEq rfl rfl | exact O.svNe rfl rfl | exact O.str rfl rfl rfl | exact O.boolEq rfl rfl rfl | exact O.boolNe rfl rfl rfl | exact O.fieldE rfl rfl rfl rfl | exact O.fieldR rfl rfl rfl rfl | exact O.loadPA rfl rfl (by first | rfl | assumption) rfl rfl | exact O.extr rfl rfl | (apply O.addrX; exact rfl; infer_instance; exact rfl; exact rfl; omega; (first | with_reducible assumption | assumption); (first | exact rfl | assumption)) | (apply O.load1; exact rfl; (first | with_reducible assumption | assumption); exact rfl; exact rfl; exact rfl) | (apply O.loadE; exact rfl; exact rfl; exact rfl; (first | with_reducible assumption | assumption); exact rfl) | (apply O.loadEA; exact rfl; exact rfl; (first | with_reducible assumption | assumption); exact rfl) | (apply O.call; exact rfl; exact rfl; (first | with_reducible assumption | assumption)) | (apply O.addrRX; exact rfl; infer_instance; exact rfl; exact rfl; (first | with_reducible assumption | assumption); (first | exact rfl | assumption); omega; exact rfl) | (apply O.loadRX; exact rfl; (first | with_reducible assumption | assumption); (first | exact rfl | assumption); (first | with_reducible assumption | assumption); exact rfl; exact rfl; exact rfl) | (apply O.lenO; exact rfl; exact rfl; (first | with_reducible assumption | assumption)) | (apply O.build; exact rfl; exact rfl; exact rfl; exact rfl)); exact rfl) | (apply R.guardT1; exact rfl; exact rfl; (first | with_reducible rfl | with_reducible assumption | decide)) | (apply R.guardT0; exact rfl; exact rfl; (first | with_reducible rfl | with_reducible assumption | decide)) | (apply R.guardF1; exact rfl; exact rfl; (first | with_reducible rfl | with_reducible assumption | decide); exact rfl) | (apply R.guardF0; exact rfl; exact rfl; (first | with_reducible rfl | with_reducible assumption | decide); exact rfl) | (apply R.guardN; exact rfl; exact rfl; exact rfl) | apply R.done | (first | apply W.seqR | apply W.seqC) | apply W.region | apply W.draw | (apply W.condT; exact rfl; (first | with_reducible rfl | with_reducible assumption | decide)) | (apply W.condF; exact rfl; (first | with_reducible rfl | with_reducible assumption | decide)) | apply W.retAft | apply W.retBlk | apply W.retLop | apply W.exitAft | apply W.exitLop | apply W.exitBlk | (apply W.exitBlkNe; exact rfl) | apply W.skipAft | apply W.skipBlk | apply W.retCut | apply W.exitCut | apply R.skip | (apply D.op0; (first | exact O.move rfl | exact O.assign rfl | exact O.fieldP rfl rfl rfl rfl | exact O.loadP rfl rfl rfl (by first | rfl | assumption) rfl | exact O.cmp rfl rfl rfl | exact O.int rfl rfl (add64 (by omega)) | exact O.int rfl rfl (sub64 (by omega)) | exact O.int rfl rfl (add8 (by omega)) | exact O.pickT rfl (by first | with_reducible rfl | with_reducible assumption | decide) rfl | exact O.pickF rfl (by first | with_reducible rfl | with_reducible assumption | decide) rfl | exact O.lenL rfl rfl | exact O.lenSv rfl rfl | exact O.lenS rfl rfl | exact O.not rfl | exact O.svEq rfl rfl | exact O.svNe rfl rfl | exact O.str rfl rfl rfl | exact O.boolEq rfl rfl rfl | exact O.boolNe rfl rfl rfl | exact O.fieldE rfl rfl rfl rfl | exact O.fieldR rfl rfl rfl rfl | exact O.loadPA rfl rfl (by first | rfl | assumption) rfl rfl | exact O.extr rfl rfl | (apply O.addrX; exact rfl; infer_instance; exact rfl; exact rfl; omega; (first | with_reducible assumption | assumption); (first | exact rfl | assumption)) | (apply O.load1; exact rfl; (first | with_reducible assumption | assumption); exact rfl; exact rfl; exact rfl) | (apply O.loadE; exact rfl; exact rfl; exact rfl; (first | with_reducible assumption | assumption); exact rfl) | (apply O.loadEA; exact rfl; exact rfl; (first | with_reducible assumption | assumption); exact rfl) | (apply O.call; exact rfl; exact rfl; (first | with_reducible assumption | assumption)) | (apply O.addrRX; exact rfl; infer_instance; exact rfl; exact rfl; (first | with_reducible assumption | assumption); (first | exact rfl | assumption); omega; exact rfl) | (apply O.loadRX; exact rfl; (first | with_reducible assumption | assumption); (first | exact rfl | assumption); (first | with_reducible assumption | assumption); exact rfl; exact rfl; exact rfl) | (apply O.lenO; exact rfl; exact rfl; (first | with_reducible assumption | assumption)) | (apply O.build; exact rfl; exact rfl; exact rfl; exact rfl)); exact rfl; exact rfl) | (apply D.guardT1; exact rfl; exact rfl; (first | with_reducible rfl | with_reducible assumption | decide)) | (apply D.guardT0; exact rfl; exact rfl; (first | with_reducible rfl | with_reducible assumption | decide)) | (apply D.guardF1; exact rfl; exact rfl; (first | with_reducible rfl | with_reducible assumption | decide); exact rfl) | (apply D.guardF0; exact rfl; exact rfl; (first | with_reducible rfl | with_reducible assumption | decide); exact rfl) | (apply D.guardN; exact rfl; exact rfl; exact rfl) | (apply D.done; kernel_rfl) | (apply D.skip; kernel_rfl)))
  exact Hold.out k) : P := h ⟨k⟩
theorem SS {P Q : Prop} (k : Q) (h : Hold Q → P := by
  intro k
  (repeat (first | (apply R.op0; (first | exact O.move rfl | exact O.assign rfl | exact O.fieldP rfl rfl rfl rfl | exact O.loadP rfl rfl rfl (by first | rfl | assumption) rfl | exact O.cmp rfl rfl rfl | exact O.int rfl rfl (add64 (by omega)) | exact O.int rfl rfl (sub64 (by omega)) | exact O.int rfl rfl (add8 (by omega)) | exact O.pickT rfl (by first | with_reducible rfl | with_reducible assumption | decide) rfl | exact O.pickF rfl (by first | with_reducible rfl | with_reducible assumption | decide) rfl | exact O.lenL rfl rfl | exact O.lenSv rfl rfl | exact O.lenS rfl rfl | exact O.not rfl | exact O.svEq rfl rfl | exact O.svNe rfl rfl | exact O.str rfl rfl rfl | exact O.boolEq rfl rfl rfl | exact O.boolNe rfl rfl rfl | exact O.fieldE rfl rfl rfl rfl | exact O.fieldR rfl rfl rfl rfl | exact O.loadPA rfl rfl (by first | rfl | assumption) rfl rfl | exact O.extr rfl rfl | (apply O.addrX; exact rfl; infer_instance; exact rfl; exact rfl; omega; (first | with_reducible assumption | assumption); (first | exact rfl | assumption)) | (apply O.load1; exact rfl; (first | with_reducible assumption | assumption); exact rfl; exact rfl; exact rfl) | (apply O.loadE; exact rfl; exact rfl; exact rfl; (first | with_reducible assumption | assumption); exact rfl) | (apply O.loadEA; exact rfl; exact rfl; (first | with_reducible assumption | assumption); exact rfl) | (apply O.call; exact rfl; exact rfl; (first | with_reducible assumption | assumption)) | (apply O.addrRX; exact rfl; infer_instance; exact rfl; exact rfl; (first | with_reducible assumption | assumption); (first | exact rfl | assumption); omega; exact rfl) | (apply O.loadRX; exact rfl; (first | with_reducible assumption | assumption); (first | exact rfl | assumption); (first | with_reducible assumption | assumption); exact rfl; exact rfl; exact rfl) | (apply O.lenO; exact rfl; exact rfl; (first | with_reducible assumption | assumption)) | (apply O.build; exact rfl; exact rfl; exact rfl; exact rfl)); exact rfl) | (apply R.guardT1; exact rfl; exact rfl; (first | with_reducible rfl | with_reducible assumption | decide)) | (apply R.guardT0; exact rfl; exact rfl; (first | with_reducible rfl | with_reducible assumption | decide)) | (apply R.guardF1; exact rfl; exact rfl; (first | with_reducible rfl | with_reducible assumption | decide); exact rfl) | (apply R.guardF0; exact rfl; exact rfl; (first | with_reducible rfl | with_reducible assumption | decide); exact rfl) | (apply R.guardN; exact rfl; exact rfl; exact rfl) | apply R.done | apply W.seq | apply W.region | apply W.draw | apply W.block | (apply W.condT; exact rfl; (first | with_reducible rfl | with_reducible assumption | decide)) | (apply W.condF; exact rfl; (first | with_reducible rfl | with_reducible assumption | decide)) | apply W.retAft | apply W.retBlk | apply W.retLop | apply W.exitAft | apply W.exitLop | apply W.exitBlk | (apply W.exitBlkNe; exact rfl) | apply W.skipAft | apply W.skipBlk | apply W.retCut | apply W.exitCut | apply R.skip | (apply D.op0; (first | exact O.move rfl | exact O.assign rfl | exact O.fieldP rfl rfl rfl rfl | exact O.loadP rfl rfl rfl (by first | rfl | assumption) rfl | exact O.cmp rfl rfl rfl | exact O.int rfl rfl (add64 (by omega)) | exact O.int rfl rfl (sub64 (by omega)) | exact O.int rfl rfl (add8 (by omega)) | exact O.pickT rfl (by first | with_reducible rfl | with_reducible assumption | decide) rfl | exact O.pickF rfl (by first | with_reducible rfl | with_reducible assumption | decide) rfl | exact O.lenL rfl rfl | exact O.lenSv rfl rfl | exact O.lenS rfl rfl | exact O.not rfl | exact O.svEq rfl rfl | exact O.svNe rfl rfl | exact O.str rfl rfl rfl | exact O.boolEq rfl rfl rfl | exact O.boolNe rfl rfl rfl | exact O.fieldE rfl rfl rfl rfl | exact O.fieldR rfl rfl rfl rfl | exact O.loadPA rfl rfl (by first | rfl | assumption) rfl rfl | exact O.extr rfl rfl | (apply O.addrX; exact rfl; infer_instance; exact rfl; exact rfl; omega; (first | with_reducible assumption | assumption); (first | exact rfl | assumption)) | (apply O.load1; exact rfl; (first | with_reducible assumption | assumption); exact rfl; exact rfl; exact rfl) | (apply O.loadE; exact rfl; exact rfl; exact rfl; (first | with_reducible assumption | assumption); exact rfl) | (apply O.loadEA; exact rfl; exact rfl; (first | with_reducible assumption | assumption); exact rfl) | (apply O.call; exact rfl; exact rfl; (first | with_reducible assumption | assumption)) | (apply O.addrRX; exact rfl; infer_instance; exact rfl; exact rfl; (first | with_reducible assumption | assumption); (first | exact rfl | assumption); omega; exact rfl) | (apply O.loadRX; exact rfl; (first | with_reducible assumption | assumption); (first | exact rfl | assumption); (first | with_reducible assumption | assumption); exact rfl; exact rfl; exact rfl) | (apply O.lenO; exact rfl; exact rfl; (first | with_reducible assumption | assumption)) | (apply O.build; exact rfl; exact rfl; exact rfl; exact rfl)); exact rfl; exact rfl) | (apply D.guardT1; exact rfl; exact rfl; (first | with_reducible rfl | with_reducible assumption | decide)) | (apply D.guardT0; exact rfl; exact rfl; (first | with_reducible rfl | with_reducible assumption | decide)) | (apply D.guardF1; exact rfl; exact rfl; (first | with_reducible rfl | with_reducible assumption | decide); exact rfl) | (apply D.guardF0; exact rfl; exact rfl; (first | with_reducible rfl | with_reducible assumption | decide); exact rfl) | (apply D.guardN; exact rfl; exact rfl; exact rfl) | (apply D.done; kernel_rfl) | (apply D.skip; kernel_rfl)))
  exact Hold.out k) : P := h ⟨k⟩
theorem SD {P Q : Prop} (k : Q) (h : Hold Q → P := by
  intro k
  (repeat (first | (apply D.op0; (first | exact O.move rfl | exact O.assign rfl | exact O.fieldP rfl rfl rfl rfl | exact O.loadP rfl rfl rfl (by first | rfl | assumption) rfl | exact O.cmp rfl rfl rfl | exact O.int rfl rfl (add64 (by omega)) | exact O.int rfl rfl (sub64 (by omega)) | exact O.int rfl rfl (add8 (by omega)) | exact O.pickT rfl (by first | with_reducible rfl | with_reducible assumption | decide) rfl | exact O.pickF rfl (by first | with_reducible rfl | with_reducible assumption | decide) rfl | exact O.lenL rfl rfl | exact O.lenSv rfl rfl | exact O.lenS rfl rfl | exact O.not rfl | exact O.svEq rfl rfl | exact O.svNe rfl rfl | exact O.str rfl rfl rfl | exact O.boolEq rfl rfl rfl | exact O.boolNe rfl rfl rfl | exact O.fieldE rfl rfl rfl rfl | exact O.fieldR rfl rfl rfl rfl | exact O.loadPA rfl rfl (by first | rfl | assumption) rfl rfl | exact O.extr rfl rfl | (apply O.addrX; exact rfl; infer_instance; exact rfl; exact rfl; omega; (first | with_reducible assumption | assumption); (first | exact rfl | assumption)) | (apply O.load1; exact rfl; (first | with_reducible assumption | assumption); exact rfl; exact rfl; exact rfl) | (apply O.loadE; exact rfl; exact rfl; exact rfl; (first | with_reducible assumption | assumption); exact rfl) | (apply O.loadEA; exact rfl; exact rfl; (first | with_reducible assumption | assumption); exact rfl) | (apply O.call; exact rfl; exact rfl; (first | with_reducible assumption | assumption)) | (apply O.addrRX; exact rfl; infer_instance; exact rfl; exact rfl; (first | with_reducible assumption | assumption); (first | exact rfl | assumption); omega; exact rfl) | (apply O.loadRX; exact rfl; (first | with_reducible assumption | assumption); (first | exact rfl | assumption); (first | with_reducible assumption | assumption); exact rfl; exact rfl; exact rfl) | (apply O.lenO; exact rfl; exact rfl; (first | with_reducible assumption | assumption)) | (apply O.build; exact rfl; exact rfl; exact rfl; exact rfl)); exact rfl; exact rfl) | (apply D.guardT1; exact rfl; exact rfl; (first | with_reducible rfl | with_reducible assumption | decide)) | (apply D.guardT0; exact rfl; exact rfl; (first | with_reducible rfl | with_reducible assumption | decide)) | (apply D.guardF1; exact rfl; exact rfl; (first | with_reducible rfl | with_reducible assumption | decide); exact rfl) | (apply D.guardF0; exact rfl; exact rfl; (first | with_reducible rfl | with_reducible assumption | decide); exact rfl) | (apply D.guardN; exact rfl; exact rfl; exact rfl)))
  exact Hold.out k) : P := h ⟨k⟩
theorem Sub.auto {l' l : Env} (h : Sub l' l := by
  (repeat (first | exact Sub.nil _ | (apply Sub.cons; exact rfl)))) : Sub l' l := h
end Go.Abs

/- One step of the logic after the other, as far as it goes, with memory. -/
open Go Go.Abs
namespace Go.Abs
set_option maxRecDepth 100000
theorem OA {C : Cfg} {id : Nat} {l : Env} {G : Nat → Obj} {nx : Nat} {df : List (AV × List AV)} {pk : Pk} {o : Op} {v : AV} 
    (h : OpV C id l G nx df pk o v [] := by first | exact O.move rfl | exact O.assign rfl | exact O.fieldP rfl rfl rfl rfl | exact O.loadP rfl rfl rfl (by first | exact rfl | with_reducible assumption | assumption | exact at_upd) rfl | exact O.cmp rfl rfl rfl | exact O.int rfl rfl (add64 (by omega)) | exact O.int rfl rfl (sub64 (by omega)) | exact O.int rfl rfl (add8 (by omega)) | exact O.pickT rfl (by first | with_reducible rfl | with_reducible assumption | decide) rfl | exact O.pickF rfl (by first | with_reducible rfl | with_reducible assumption | decide) rfl | exact O.lenL rfl rfl | exact O.lenSv rfl rfl | exact O.lenS rfl rfl | exact O.not rfl | exact O.svEq rfl rfl | exact O.svNe rfl rfl | exact O.str rfl rfl rfl | exact O.boolEq rfl rfl rfl | exact O.boolNe rfl rfl rfl | exact O.fieldE rfl rfl rfl rfl | exact O.fieldR rfl rfl rfl rfl | exact O.loadPA rfl rfl (by first | exact rfl | with_reducible assumption | assumption | exact at_upd) rfl rfl | exact O.extr rfl rfl | exact O.nilP rfl | exact O.nilF rfl | exact O.extrT rfl rfl | exact O.makeFunc rfl rfl rfl | exact O.fieldF rfl rfl rfl rfl | exact O.loadF rfl rfl rfl rfl | exact O.loadFA rfl rfl rfl | exact O.ptrEq rfl rfl rfl rfl | exact O.ptrNe rfl rfl rfl rfl | exact O.max rfl rfl | exact O.min rfl rfl | (apply O.addrX; exact rfl; infer_instance; exact rfl; exact rfl; omega; (first | with_reducible assumption | assumption); (first | exact rfl | assumption)) | (apply O.load1; exact rfl; (first | with_reducible assumption | assumption); exact rfl; exact rfl; exact rfl) | (apply O.loadE; exact rfl; exact rfl; exact rfl; (first | with_reducible assumption | assumption); exact rfl) | (apply O.loadEA; exact rfl; exact rfl; (first | with_reducible assumption | assumption); exact rfl) | (apply O.call; exact rfl; exact rfl; (first | with_reducible assumption | assumption)) | (apply O.addrRX; exact rfl; infer_instance; exact rfl; exact rfl; (first | with_reducible assumption | assumption); (first | exact rfl | with_reducible assumption | assumption | exact List.length_map ..); omega; exact rfl) | (apply O.loadRX; exact rfl; (first | with_reducible assumption | assumption); (first | exact rfl | with_reducible assumption | assumption | exact List.length_map ..); (first | with_reducible assumption | assumption); exact rfl; exact rfl; exact rfl) | (apply O.loadRA;  exact rfl; (first | with_reducible assumption | assumption); (first | exact rfl | with_reducible assumption | assumption | exact List.length_map ..); (first | with_reducible assumption | assumption); exact rfl; exact rfl) | (apply O.lenO; exact rfl; exact rfl; (first | with_reducible assumption | assumption)) | (apply O.lenR; exact rfl; exact rfl; (first | exact rfl | with_reducible assumption | assumption | exact at_upd); (first | exact rfl | with_reducible assumption | assumption | exact List.length_map ..)) | (apply O.build; exact rfl; exact rfl; exact rfl; exact rfl) | (apply O.callV; exact rfl; infer_instance; exact rfl; exact rfl; (first | with_reducible assumption | assumption)) | (apply O.lookA; exact rfl; infer_instance; infer_instance; exact rfl; exact rfl; exact rfl; (first | with_reducible assumption | assumption))) : OpV C id l G nx df pk o v [] := h
theorem OB {C : Cfg} {id : Nat} {l : Env} {G : Nat → Obj} {nx : Nat} {df : List (AV × List AV)} {pk : Pk} {o : Op} {v : AV} {q : Nat} {x : Obj}
    (h : OpV C id l G nx df pk o v [(q, .set x)] := by first | exact O.boxS rfl rfl rfl | exact O.alloc rfl rfl | exact O.makeMap | (apply O.buildX; exact rfl; infer_instance; exact rfl; exact rfl; decide; exact rfl; exact rfl; decide)) : OpV C id l G nx df pk o v [(q, .set x)] := h
theorem ON {C : Cfg} {id : Nat} {l : Env} {G : Nat → Obj} {nx : Nat} {df : List (AV × List AV)} {pk : Pk} {o : Op} {v : AV} {q : Nat} {x : Obj}
    (h : OpV C id l G nx df pk o v [(q, .set x)] := by first | (apply O.storeP; exact rfl; exact rfl; exact rfl; (first | exact rfl | with_reducible assumption | assumption | exact at_upd); exact rfl; exact rfl) | (apply O.storeP1; exact rfl; exact rfl; exact rfl; assumption; assumption; (first | exact rfl | with_reducible assumption | assumption | exact at_upd); exact rfl; exact rfl)) : OpV C id l G nx df pk o v [(q, .set x)] := h
theorem BB {P Q : Prop} (k : Q) (h : Hold Q → P := by
  intro k
  (repeat (first | (apply R.op0; exact OA; exact rfl) | (apply R.op1; exact OB; exact rfl) | (apply R.opN1; exact ON) | (apply R.guardT1; exact rfl; exact rfl; (first | with_reducible rfl | with_reducible assumption | decide)) | (apply R.guardT0; exact rfl; exact rfl; (first | with_reducible rfl | with_reducible assumption | decide)) | (apply R.guardF1; exact rfl; exact rfl; (first | with_reducible rfl | with_reducible assumption | decide); exact rfl) | (apply R.guardF0; exact rfl; exact rfl; (first | with_reducible rfl | with_reducible assumption | decide); exact rfl) | (apply R.guardN; exact rfl; exact rfl; exact rfl) | apply R.done | apply W.seq | apply W.regionN | apply W.drawN | apply W.block | apply W.scope | apply W.label | (apply W.condT; exact rfl; (first | with_reducible rfl | with_reducible assumption | decide)) | (apply W.condF; exact rfl; (first | with_reducible rfl | with_reducible assumption | decide)) | apply W.retAft | apply W.retBlk | apply W.retLop | apply W.exitAft | apply W.exitLop | apply W.exitBlk | (apply W.exitBlkNe; exact rfl) | apply W.skipAft | apply W.skipBlk | apply W.retCut | apply W.exitCut | apply R.skip | (apply D.op0; exact OA; exact rfl; exact rfl) | (apply D.op1; exact OB; exact rfl; exact rfl) | (apply D.opN1; exact ON; exact rfl) | (apply D.guardT1; exact rfl; exact rfl; (first | with_reducible rfl | with_reducible assumption | decide)) | (apply D.guardT0; exact rfl; exact rfl; (first | with_reducible rfl | with_reducible assumption | decide)) | (apply D.guardF1; exact rfl; exact rfl; (first | with_reducible rfl | with_reducible assumption | decide); exact rfl) | (apply D.guardF0; exact rfl; exact rfl; (first | with_reducible rfl | with_reducible assumption | decide); exact rfl) | (apply D.guardN; exact rfl; exact rfl; exact rfl) | (apply D.done; kernel_rfl) | (apply D.skip; kernel_rfl)))
  exact Hold.out k) : P := h ⟨k⟩
theorem BD {P Q : Prop} (k : Q) (h : Hold Q → P := by
  intro k
  (repeat (first | (apply D.op0; exact OA; exact rfl; exact rfl) | (apply D.op1; exact OB; exact rfl; exact rfl) | (apply D.opN1; exact ON; exact rfl) | (apply D.guardT1; exact rfl; exact rfl; (first | with_reducible rfl | with_reducible assumption | decide)) | (apply D.guardT0; exact rfl; exact rfl; (first | with_reducible rfl | with_reducible assumption | decide)) | (apply D.guardF1; exact rfl; exact rfl; (first | with_reducible rfl | with_reducible assumption | decide); exact rfl) | (apply D.guardF0; exact rfl; exact rfl; (first | with_reducible rfl | with_reducible assumption | decide); exact rfl) | (apply D.guardN; exact rfl; exact rfl; exact rfl)))
  exact Hold.out k) : P := h ⟨k⟩
end Go.Abs

/- The abstract interpreter: what abstract values and states say of the machine's. -/
namespace Go.Abs
abbrev Mem := Nat → Option Go.Obj
def at_ (vs : Array Value) (i : Nat) : Value := vs.getD i Go.undef
def VL {α : Type} (P : α → Value → Prop) (l : List α) (vs : Array Value) : Prop :=
  l.length = vs.size ∧ ∀ (i : Nat) x, l[i]? = some x → P x (at_ vs i)
def Born (es : Array MapEntry) (clk : Nat) : Prop := (∀ x ∈ es.toList, x.born < clk) ∧ (es.toList.map (·.born)).Nodup
inductive VI (M : Mem) : IV → Value → Prop where
  | bool (b) : VI M (.bool b) (.bool b)
  | int (k n) : VI M (.int k n) (.int k n)
  | str (s) : VI M (.str s) (.string s)
  | nil : VI M (.lst []) (.slice none 0 0)
  | empty (a : Addr) (c) : VI M (.lst []) (.slice (some a) 0 c)
  | lst (xs b off c cs e fr sz) (h0 : xs ≠ []) (hc : xs.length ≤ c) (h : M b = some (.cells cs e fr)) (hs : 0 < sz)
      (h1 : ∀ (i : Nat) x, xs[i]? = some x → (IV.cells x).length = sz) (h2 : off + xs.length * sz ≤ cs.size)
      (hl : ∀ (i : Nat) x (j : Nat) y, xs[i]? = some x → (IV.cells x)[j]? = some y → VI M y (at_ cs (off + i * sz + j))) :
      VI M (.lst xs) (.slice (some ⟨b, off, none⟩) xs.length c)
  | agg (xs) (vs : Array Value) (h : xs.length = vs.size) (hl : ∀ (i : Nat) x, xs[i]? = some x → VI M x (at_ vs i)) : VI M (.agg xs) (.agg vs)
  | tup (xs) (vs : Array Value) (h : xs.length = vs.size) (hl : ∀ (i : Nat) x, xs[i]? = some x → VI M x (at_ vs i)) : VI M (.tup xs) (.tuple vs)
  | fptr (cs off b vs e fr o0) (h : M b = some (.cells vs e fr)) (h2 : o0 + cs.length ≤ vs.size) (hl : ∀ (j : Nat) y, cs[j]? = some y → VI M y (at_ vs (o0 + j))) :
      VI M (.fptr cs off) (.pointer (some ⟨b, o0 + off, none⟩))
  | eptr (xs i off b vs e fr o0 sz) (h : M b = some (.cells vs e fr)) (hs : 0 < sz)
      (h1 : ∀ (i : Nat) x, xs[i]? = some x → (IV.cells x).length = sz) (h2 : o0 + xs.length * sz ≤ vs.size)
      (hl : ∀ (i : Nat) x (j : Nat) y, xs[i]? = some x → (IV.cells x)[j]? = some y → VI M y (at_ vs (o0 + i * sz + j))) :
      VI M (.eptr xs i off) (.pointer (some ⟨b, o0 + i * sz + off, none⟩))
  | nilp : VI M .nilp (.pointer none)
  | nilfn : VI M .nilfn .nilFunc
  | nilmap : VI M .nilmap (.map none)
  | niliface : VI M .niliface .nilIface
  | iface (t x v) (h : VI M x v) : VI M (.iface t x) (.iface t v)
  | fn (f cap) (vs : Array Value) (h : cap.length = vs.size) (hl : ∀ (i : Nat) x, cap[i]? = some x → VI M x (at_ vs i)) : VI M (.fn f cap) (.func f #[] vs)
  | fmp (ks vs b es clk) (h : M b = some (.map es clk)) (hk : ks.length = es.size) (hv : vs.length = es.size)
      (hks : ∀ (i : Nat) x, ks[i]? = some x → VI M x (es.getD i default).key) (hvs : ∀ (i : Nat) x, vs[i]? = some x → VI M x (es.getD i default).val) (hbn : Born es clk) :
      VI M (.fmp ks vs) (.map (some b))
def Mem.le (M M' : Mem) : Prop := ∀ b o, M b = some o → M' b = some o
theorem Mem.le_refl (M : Mem) : M.le M := fun _ _ h => h
theorem Mem.le_trans {A B C : Mem} (h : A.le B) (k : B.le C) : A.le C := fun b o e => k b o (h b o e)
theorem VI.mono {M M' : Mem} (hm : M.le M') {x : IV} {v : Value} (h : VI M x v) : VI M' x v := by
  induction h with
  | bool => exact .bool _
  | int => exact .int _ _
  | str => exact .str _
  | nil => exact .nil
  | empty => exact .empty _ _
  | lst xs b off c cs e fr sz h0 hc h hs h1 h2 _ ih => exact .lst xs b off c cs e fr sz h0 hc (hm _ _ h) hs h1 h2 ih
  | agg xs vs h _ ih => exact .agg xs vs h ih
  | tup xs vs h _ ih => exact .tup xs vs h ih
  | fptr cs off b vs e fr o0 h h2 _ ih => exact .fptr cs off b vs e fr o0 (hm _ _ h) h2 ih
  | eptr xs i off b vs e fr o0 sz h hs h1 h2 _ ih => exact .eptr xs i off b vs e fr o0 sz (hm _ _ h) hs h1 h2 ih
  | nilp => exact .nilp
  | nilfn => exact .nilfn
  | nilmap => exact .nilmap
  | niliface => exact .niliface
  | iface t x v _ ih => exact .iface t x v ih
  | fn f cap vs h _ ih => exact .fn f cap vs h ih
  | fmp ks vs b es clk h hk hv _ _ hbn ih1 ih2 => exact .fmp ks vs b es clk (hm _ _ h) hk hv ih1 ih2 hbn
theorem VI.any {M : Mem} {x : IV} {v : Value} (h : VI M x v) (hs : x.scalar = true) (M' : Mem) : VI M' x v := by
  have key : ∀ l : List IV, IV.scalars l = true → ∀ (i : Nat) x, l[i]? = some x → x.scalar = true := by
    intro l
    induction l with
    | nil => intro _ i x hx; simp at hx
    | cons y r ih =>
      intro hl i x hx
      simp only [IV.scalars, Bool.and_eq_true] at hl
      cases i with
      | zero => simp at hx; exact hx ▸ hl.1
      | succ i => exact ih hl.2 i x (by simpa using hx)
  induction h with
  | bool => exact .bool _
  | int => exact .int _ _
  | str => exact .str _
  | agg xs vs h _ ih => exact .agg xs vs h fun i x hx => ih i x hx (key _ (by simpa [IV.scalar] using hs) i x hx)
  | tup xs vs h _ ih => exact .tup xs vs h fun i x hx => ih i x hx (key _ (by simpa [IV.scalar] using hs) i x hx)
  | nilp => exact .nilp
  | nilfn => exact .nilfn
  | nilmap => exact .nilmap
  | niliface => exact .niliface
  | iface t x v _ ih => exact .iface t x v (ih (by simpa [IV.scalar] using hs))
  | _ => simp [IV.scalar] at hs
abbrev Ref := Nat → Option Value
inductive VA (M : Mem) (ρ : Ref) (G : Nat → Obj) : AV → Value → Prop where
  | imm (x v) (h : VI M x v) : VA M ρ G (.imm x) v
  | undef (v) : VA M ρ G .undef v
  | nils : VA M ρ G .nils (.slice none 0 0)
  | ptr (o off b) (h : ρ o = some (.pointer (some ⟨b, 0, none⟩))) : VA M ρ G (.ptr o off) (.pointer (some ⟨b, off, none⟩))
  | row (o n a l c) (hb : ρ o ≠ none) (h : ∀ et sz xs fr, G o = .row et sz xs fr → n ≤ xs.length ∧ (n = xs.length → ρ o = some (.slice a l c))) : VA M ρ G (.row o n) (.slice a l c)
  | rptr (o n i off b f) (hb : ρ o ≠ none)
      (h : ∀ et sz xs fr, G o = .row et sz xs fr → n ≤ xs.length ∧ (n = xs.length → ∃ l c, ρ o = some (.slice (some ⟨b, 0, none⟩) l c) ∧ f = i * sz + off)) :
      VA M ρ G (.rptr o n i off) (.pointer (some ⟨b, f, none⟩))
  | map (o b) (h : ρ o = some (.map (some b))) : VA M ρ G (.map o) (.map (some b))
  | yld (o l) (h : ρ o = some (.func (.yield l) #[] #[])) : VA M ρ G (.yld o) (.func (.yield l) #[] #[])
  | fn (f cap) (vs : Array Value) (h : cap.length = vs.size) (hl : ∀ (i : Nat) x, cap[i]? = some x → VA M ρ G x (at_ vs i)) : VA M ρ G (.fn f cap) (.func f #[] vs)
  | agg (xs) (vs : Array Value) (h : xs.length = vs.size) (hl : ∀ (i : Nat) x, xs[i]? = some x → VA M ρ G x (at_ vs i)) : VA M ρ G (.agg xs) (.agg vs)
  | tup (xs) (vs : Array Value) (h : xs.length = vs.size) (hl : ∀ (i : Nat) x, xs[i]? = some x → VA M ρ G x (at_ vs i)) : VA M ρ G (.tup xs) (.tuple vs)
structure Ev (M : Mem) (ρ : Ref) (G : Nat → Obj) (M' : Mem) (ρ' : Ref) (G' : Nat → Obj) : Prop where
  mem : M.le M'
  ref : ∀ o v, ρ o = some v → ρ' o = some v ∨ (∃ a l c, v = .slice a l c) ∧ ρ' o ≠ none
  row : ∀ o, ρ o ≠ none → ∀ et sz xs fr, G' o = .row et sz xs fr → ∃ xs0 fr0, G o = .row et sz xs0 fr0 ∧ xs0.length ≤ xs.length ∧ (xs0.length = xs.length → ρ' o = ρ o)
theorem Ev.refl (M : Mem) (ρ : Ref) (G : Nat → Obj) : Ev M ρ G M ρ G := ⟨Mem.le_refl M, fun _ _ h => .inl h, fun _ _ _ _ xs fr h => ⟨xs, fr, h, Nat.le_refl _, fun _ => rfl⟩⟩
theorem Ev.born {M M' : Mem} {ρ ρ' : Ref} {G G' : Nat → Obj} (h : Ev M ρ G M' ρ' G') {o : Nat} (hb : ρ o ≠ none) : ρ' o ≠ none := by
  cases e : ρ o with
  | none => exact absurd e hb
  | some v => rcases h.ref o v e with h | ⟨_, h⟩
              · rw [h]; simp
              · exact h
theorem Ev.trans {A B C : Mem} {ρ ρ1 ρ2 : Ref} {G G1 G2 : Nat → Obj} (h : Ev A ρ G B ρ1 G1) (k : Ev B ρ1 G1 C ρ2 G2) : Ev A ρ G C ρ2 G2 := by
  refine ⟨Mem.le_trans h.mem k.mem, fun o v e => ?_, fun o hb et sz xs fr e => ?_⟩
  · rcases h.ref o v e with h1 | ⟨h1, h2⟩
    · exact k.ref o v h1
    · exact .inr ⟨h1, k.born h2⟩
  · obtain ⟨x1, f1, e1, l1, p1⟩ := k.row o (h.born hb) et sz xs fr e
    obtain ⟨x0, f0, e0, l0, p0⟩ := h.row o hb et sz x1 f1 e1
    exact ⟨x0, f0, e0, Nat.le_trans l0 l1, fun hq => (p1 (by omega)).trans (p0 (by omega))⟩
theorem VA.mono {M M' : Mem} {ρ ρ' : Ref} {G G' : Nat → Obj} (hv : Ev M ρ G M' ρ' G') {x : AV} {v : Value} (h : VA M ρ G x v) : VA M' ρ' G' x v := by
  induction h with
  | imm x v h => exact .imm x v (h.mono hv.mem)
  | undef => exact .undef _
  | nils => exact .nils
  | ptr o off b h =>
    refine .ptr o off b ?_
    rcases hv.ref _ _ h with h | ⟨⟨a, l, c, h⟩, _⟩
    · exact h
    · cases h
  | row o n a l c hb h =>
    refine .row o n a l c (hv.born hb) fun et sz xs fr e => ?_
    obtain ⟨x0, f0, e0, l0, p0⟩ := hv.row o hb et sz xs fr e
    obtain ⟨h1, h2⟩ := h et sz x0 f0 e0
    exact ⟨by omega, fun hq => (p0 (by omega)).trans (h2 (by omega))⟩
  | rptr o n i off b f hb h =>
    refine .rptr o n i off b f (hv.born hb) fun et sz xs fr e => ?_
    obtain ⟨x0, f0, e0, l0, p0⟩ := hv.row o hb et sz xs fr e
    obtain ⟨h1, h2⟩ := h et sz x0 f0 e0
    exact ⟨by omega, fun hq => by rw [p0 (by omega)]; exact h2 (by omega)⟩
  | map o b h =>
    refine .map o b ?_
    rcases hv.ref _ _ h with h | ⟨⟨a, l, c, h⟩, _⟩
    · exact h
    · cases h
  | yld o l h =>
    refine .yld o l ?_
    rcases hv.ref _ _ h with h | ⟨⟨a, l, c, h⟩, _⟩
    · exact h
    · cases h
  | fn f cap vs h _ ih => exact .fn f cap vs h ih
  | agg xs vs h _ ih => exact .agg xs vs h ih
  | tup xs vs h _ ih => exact .tup xs vs h ih
def blk : Value → Option Nat
  | .pointer (some a) => some a.block
  | .slice (some a) _ _ => some a.block
  | .map (some b) => some b
  | .func (.yield l) _ _ => some l
  | _ => none
structure RowIs (M : Mem) (ρ : Ref) (G : Nat → Obj) (sz : Nat) (xs : List AV) (cs : List Value) : Prop where
  fit : ∀ x ∈ xs, x.fits sz = true
  cell : ∀ (i : Nat) x (j : Nat) y, xs[i]? = some x → x.cells[j]? = some y → VA M ρ G y (cs.getD (i * sz + j) Go.undef)
structure LoopIs (M : Mem) (ρ : Ref) (G : Nat → Obj) (tmps : Nat → AV) (nt : Nat) (params : List Nat) (assign body : Code) (fn : FuncId) (st : Nat) (pending : Option Code) (r : Loop) : Prop where
  tmps : ∀ t, VA M ρ G (tmps t) (r.tmps.getD t Go.undef)
  size : r.tmps.size = nt
  params : r.params.toList = params
  assign : r.assign = assign
  body : r.body = body
  fn : r.fn = fn
  state : (st = 0 ∧ r.state = .ready) ∨ (st = 1 ∧ r.state = .busy) ∨ (st = 2 ∧ r.state = .done)
  pending : r.pending = pending
def ObjOK (w : World) (M : Mem) (ρ : Ref) (G : Nat → Obj) (o : Nat) : Prop :=
  match G o with
  | .gone => True
  | .box cs fr => ∃ b vs e, ρ o = some (.pointer (some ⟨b, 0, none⟩)) ∧ w.heap[b]? = some (.cells vs e (0, 0)) ∧ VL (VA M ρ G) cs vs ∧ (fr = true → M b ≠ none)
  | .row et sz xs fr => 0 < sz ∧ ∃ v cs, ρ o = some v ∧ w.ownsRow 0 et sz v xs.length cs ∧ RowIs M ρ G sz xs cs ∧ (fr = true → ∀ b, blk v = some b → M b ≠ none)
  | .mp ks vs fr => ∃ b es clk, ρ o = some (.map (some b)) ∧ w.heap[b]? = some (.map es clk) ∧ ks.length = es.size ∧ vs.length = es.size ∧
      (∀ (i : Nat) x, ks[i]? = some x → VI M x (es.getD i default).key) ∧ (∀ (i : Nat) x, vs[i]? = some x → VA M ρ G x (es.getD i default).val) ∧ (fr = true → M b ≠ none) ∧ Born es clk
  | .it ks vs done => ∃ r, ρ o = some (.pointer (some ⟨r, 0, none⟩)) ∧ ((w.heap[r]? = some (.mapIter none 0 #[] 0) ∧ ks = []) ∨ ∃ bm es clk seen, w.heap[r]? = some (.mapIter (some bm) clk seen clk) ∧ M bm = some (.map es clk) ∧ Born es clk ∧
      ks.length = es.size ∧ vs.length = es.size ∧ es.size ≤ 1 ∧ (∀ (i : Nat) x, ks[i]? = some x → VI M x (es.getD i default).key) ∧ (∀ (i : Nat) x, vs[i]? = some x → VI M x (es.getD i default).val) ∧
      (done = false → seen = #[]) ∧ (done = true → ∃ e, es = #[e] ∧ seen = #[e.born]))
  | .lp tmps nt params assign body fn st pending => ∃ l r, ρ o = some (.func (.yield l) #[] #[]) ∧ w.heap[l]? = some (.loop r) ∧ LoopIs M ρ G tmps nt params assign body fn st pending r
def Obj.live : Obj → Bool
  | .gone => false
  | _ => true
structure Inv (Q : Nat → Prop) (w : World) (M : Mem) (ρ : Ref) (G : Nat → Obj) (nx : Nat) : Prop where
  mem : ∀ b o, M b = some o → w.heap[b]? = some o
  obj : ∀ o, ObjOK w M ρ G o
  free : ∀ o, nx ≤ o → ρ o = none
  gone : ∀ o, ρ o = none → G o = .gone
  sep : ∀ o o' v v' b, (G o).live = true → (G o').live = true → ρ o = some v → ρ o' = some v' → blk v = some b → blk v' = some b → o = o'
  own : ∀ o v b, (G o).live = true → (G o).frozen = false → ρ o = some v → blk v = some b → M b = none ∧ Q b
  new : ∀ b, w.heap.size ≤ b → Q b
structure WS (Q : Nat → Prop) (w w' : World) : Prop where
  os : w'.os = w.os
  tape : w'.tape = w.tape
  output : w'.output = w.output
  size : w.heap.size ≤ w'.heap.size
  block : ∀ b, ¬ Q b → w'.heap[b]? = w.heap[b]?
theorem WS.refl (Q : Nat → Prop) (w : World) : WS Q w w := ⟨rfl, rfl, rfl, Nat.le_refl _, fun _ _ => rfl⟩
theorem WS.trans {Q : Nat → Prop} {a b c : World} (h : WS Q a b) (k : WS Q b c) : WS Q a c :=
  ⟨k.os.trans h.os, k.tape.trans h.tape, k.output.trans h.output, Nat.le_trans h.size k.size, fun i hi => (k.block i hi).trans (h.block i hi)⟩
end Go.Abs

/- The abstract interpreter: how its relation to the machine is kept. -/
namespace Go.Abs
variable {M M' : Mem} {ρ ρ' : Ref} {G G' : Nat → Obj} {w w' : World} {nx : Nat} {Q : Nat → Prop}
theorem VL.imp {α : Type} {P P' : α → Value → Prop} {l : List α} {vs : Array Value} (h : VL P l vs) (hp : ∀ x v, P x v → P' x v) : VL P' l vs :=
  ⟨h.1, fun i x hx => hp _ _ (h.2 i x hx)⟩
theorem Mem.ne (h : M.le M') {b : Nat} (hb : M b ≠ none) : M' b ≠ none := by
  cases e : M b with
  | none => exact absurd e hb
  | some o => rw [h b o e]; simp
theorem ownsRow_heap {base n sz : Nat} {et : TypeId} {v : Value} {cs : List Value} (h : w.ownsRow base et sz v n cs) (hw : ∀ b, blk v = some b → w'.heap[b]? = w.heap[b]?) : w'.ownsRow base et sz v n cs := by
  refine ⟨h.1, ?_⟩
  rcases h.2 with h | ⟨g, cap, cur, rfl, h1, h2, h3⟩
  · exact .inl h
  · exact .inr ⟨g, cap, cur, rfl, h1, (hw g rfl).trans h2, h3⟩
theorem RowIs.mono {sz : Nat} {xs : List AV} {cs : List Value} (h : RowIs M ρ G sz xs cs) (hv : Ev M ρ G M' ρ' G') : RowIs M' ρ' G' sz xs cs :=
  ⟨h.fit, fun i x j y hx hy => (h.cell i x j y hx hy).mono hv⟩
theorem ObjOK.mono {o : Nat} (h : ObjOK w M ρ G o) (hG : G' o = G o) (hr : ρ' o = ρ o) (hv : Ev M ρ G M' ρ' G')
    (hw : ∀ v b, ρ o = some v → blk v = some b → w'.heap[b]? = w.heap[b]?) : ObjOK w' M' ρ' G' o := by
  have hm := hv.mem
  unfold ObjOK at *
  rw [hG, hr]
  cases e : G o with
  | gone => trivial
  | box cs fr =>
    rw [e] at h
    obtain ⟨b, vs, e', h1, h2, h3, h4⟩ := h
    exact ⟨b, vs, e', h1, (hw _ b h1 rfl).trans h2, h3.imp fun _ _ => VA.mono hv, fun hf => Mem.ne hm (h4 hf)⟩
  | row et sz xs fr =>
    rw [e] at h
    obtain ⟨h0, v, cs, h1, h2, h3, h4⟩ := h
    exact ⟨h0, v, cs, h1, ownsRow_heap h2 (hw v · h1), h3.mono hv, fun hf b hb => Mem.ne hm (h4 hf b hb)⟩
  | mp ks vs fr =>
    rw [e] at h
    obtain ⟨b, es, clk, h1, h2, h3, h4, h5, h6, h7, h8⟩ := h
    exact ⟨b, es, clk, h1, (hw _ b h1 rfl).trans h2, h3, h4, fun i x hx => (h5 i x hx).mono hm, fun i x hx => (h6 i x hx).mono hv, fun hf => Mem.ne hm (h7 hf), h8⟩
  | it ks vs done =>
    rw [e] at h
    obtain ⟨r, h1, h2⟩ := h
    refine ⟨r, h1, ?_⟩
    rw [hw _ r h1 rfl]
    rcases h2 with h2 | ⟨bm, es, clk, seen, h2, h3, h4, h6, h7, h8, h9, h10, h11⟩
    · exact .inl h2
    · exact .inr ⟨bm, es, clk, seen, h2, hm _ _ h3, h4, h6, h7, h8, fun i x hx => (h9 i x hx).mono hm, fun i x hx => (h10 i x hx).mono hm, h11⟩
  | lp tmps nt params assign body fn st pending =>
    rw [e] at h
    obtain ⟨l, r, h1, h2, h3⟩ := h
    exact ⟨l, r, h1, (hw _ l h1 rfl).trans h2, { h3 with tmps := fun t => (h3.tmps t).mono hv }⟩
theorem Inv.lt (h : Inv Q w M ρ G nx) {o b : Nat} {v : Value} (hl : (G o).live = true) (hv : ρ o = some v) (hb : blk v = some b) : b < w.heap.size := by
  have := h.obj o
  unfold ObjOK at this
  cases e : G o with
  | gone => rw [e] at hl; simp [Obj.live] at hl
  | box cs fr =>
    rw [e] at this
    obtain ⟨b', vs, e', h1, h2, _⟩ := this
    rw [hv] at h1; cases h1; simp [blk] at hb; subst hb
    exact (Array.getElem?_eq_some_iff.1 h2).1
  | row et sz xs fr =>
    rw [e] at this
    obtain ⟨_, v', cs, h1, h2, _⟩ := this
    rw [hv] at h1; cases h1
    rcases h2.2 with ⟨rfl, _⟩ | ⟨g, cap, cur, rfl, _, h3, _⟩
    · simp [blk] at hb
    · simp [blk] at hb; subst hb; exact (Array.getElem?_eq_some_iff.1 h3).1
  | mp ks vs fr =>
    rw [e] at this
    obtain ⟨b', es, clk, h1, h2, _⟩ := this
    rw [hv] at h1; cases h1; simp [blk] at hb; subst hb
    exact (Array.getElem?_eq_some_iff.1 h2).1
  | it ks vs done =>
    rw [e] at this
    obtain ⟨r, h1, h2⟩ := this
    rw [hv] at h1; cases h1; simp [blk] at hb; subst hb
    rcases h2 with ⟨h2, _⟩ | ⟨_, _, _, _, h2, _⟩
    · exact (Array.getElem?_eq_some_iff.1 h2).1
    · exact (Array.getElem?_eq_some_iff.1 h2).1
  | lp tmps nt params assign body fn st pending =>
    rw [e] at this
    obtain ⟨l, r, h1, h2, _⟩ := this
    rw [hv] at h1; cases h1; simp [blk] at hb; subst hb
    exact (Array.getElem?_eq_some_iff.1 h2).1
theorem Inv.put (h : Inv Q w M ρ G nx) {q : Nat} {x : Obj} {r : Value} (hq : q < nx) (hv : Ev M ρ G M (upd ρ q (some r)) (upd G q x))
    (hw : ∀ b, w'.heap[b]? = w.heap[b]? ∨ w.heap.size ≤ b ∨ ((G q).live = true ∧ (G q).frozen = false ∧ ∃ v, ρ q = some v ∧ blk v = some b))
    (hsz : w.heap.size ≤ w'.heap.size) (hx : ObjOK w' M (upd ρ q (some r)) (upd G q x) q)
    (hb : ∀ b, blk r = some b → w.heap.size ≤ b ∨ ((G q).live = true ∧ (G q).frozen = false ∧ ∃ v, ρ q = some v ∧ blk v = some b))
    :
    Inv Q w' M (upd ρ q (some r)) (upd G q x) nx := by
  have hout : ∀ o v b, o ≠ q → (G o).live = true → ρ o = some v → blk v = some b → w'.heap[b]? = w.heap[b]? := by
    intro o v b hne hl hv hb
    rcases hw b with h1 | h1 | ⟨hlq, _, v', hv', hb'⟩
    · exact h1
    · have := h.lt hl hv hb; omega
    · exact absurd (h.sep o q v v' b hl hlq hv hv' hb hb') hne
  refine ⟨fun b o hm => ?_, fun o => ?_, fun o ho => ?_, fun o ho => ?_, ?_, ?_, fun b hb => h.new b (by omega)⟩
  · have hb := h.mem b o hm
    rcases hw b with h1 | h1 | ⟨hlq, hfq, v', hv', hb'⟩
    · rw [h1]; exact hb
    · have := (Array.getElem?_eq_some_iff.1 hb).1; omega
    · have := (h.own q v' b hlq hfq hv' hb').1; rw [hm] at this; cases this
  · by_cases hoq : o = q
    · subst hoq; exact hx
    · by_cases hl : (G o).live = true
      · exact (h.obj o).mono (by simp [upd, hoq]) (by simp [upd, hoq]) hv (fun v b hv' hb' => hout o v b hoq hl hv' hb')
      · have : G o = .gone := by cases e : G o <;> simp_all [Obj.live]
        unfold ObjOK; simp [upd, hoq, this]
  · simp only [upd]; rw [if_neg (by omega)]; exact h.free o ho
  · by_cases hoq : o = q
    · subst hoq; simp [upd] at ho
    · simp only [upd, if_neg hoq] at ho ⊢; exact h.gone o ho
  · intro o o' v v' b hl hl' hv1 hv2 hb1 hb2
    by_cases ho : o = q
    · by_cases ho' : o' = q
      · rw [ho, ho']
      · exfalso
        subst ho
        simp only [upd, if_true, Option.some.injEq] at hv1
        subst hv1
        simp only [upd, if_neg ho'] at hl' hv2
        rcases hb b hb1 with h1 | ⟨h1, _, v0, h2, h3⟩
        · have := h.lt hl' hv2 hb2; omega
        · exact ho' (h.sep o' o v' v0 b hl' h1 hv2 h2 hb2 h3)
    · by_cases ho' : o' = q
      · exfalso
        subst ho'
        simp only [upd, if_true, Option.some.injEq] at hv2
        subst hv2
        simp only [upd, if_neg ho] at hl hv1
        rcases hb b hb2 with h1 | ⟨h1, _, v0, h2, h3⟩
        · have := h.lt hl hv1 hb1; omega
        · exact ho (h.sep o o' v v0 b hl h1 hv1 h2 hb1 h3)
      · simp only [upd, if_neg ho] at hl hv1
        simp only [upd, if_neg ho'] at hl' hv2
        exact h.sep o o' v v' b hl hl' hv1 hv2 hb1 hb2
  · intro o v b hl hfr hv1 hb1
    by_cases ho : o = q
    · subst ho
      simp only [upd, if_true, Option.some.injEq] at hv1
      subst hv1
      rcases hb b hb1 with h1 | ⟨h1, h1', v0, h2, h3⟩
      · refine ⟨?_, h.new b h1⟩
        cases e : M b with
        | none => rfl
        | some x' => have := (Array.getElem?_eq_some_iff.1 (h.mem b x' e)).1; omega
      · exact h.own o v0 b h1 h1' h2 h3
    · simp only [upd, if_neg ho] at hl hfr hv1
      exact h.own o v b hl hfr hv1 hb1
theorem Inv.world (h : Inv Q w M ρ G nx) (hw : ∀ b, b < w.heap.size → w'.heap[b]? = w.heap[b]?) (hsz : w.heap.size ≤ w'.heap.size) : Inv Q w' M ρ G nx := by
  refine ⟨fun b o hm => ?_, fun o => ?_, h.free, h.gone, h.sep, h.own, fun b hb => h.new b (by omega)⟩
  · have := h.mem b o hm
    rw [hw b (Array.getElem?_eq_some_iff.1 this).1]; exact this
  · by_cases hl : (G o).live = true
    · exact (h.obj o).mono rfl rfl (Ev.refl _ _ _) fun v b hv hb => hw b (h.lt hl hv hb)
    · have : G o = .gone := by cases e : G o <;> simp_all [Obj.live]
      unfold ObjOK; rw [this]; trivial
theorem WS.alloc (h : ∀ b, w.heap.size ≤ b → Q b) (o : Go.Obj) : WS Q w (w.alloc o) :=
  ⟨rfl, rfl, rfl, by simp, fun b hb => by
    have : b < w.heap.size := by
      rcases Nat.lt_or_ge b w.heap.size with h1 | h1
      · exact h1
      · exact absurd (h b h1) hb
    exact Go.RowKit.Below.heap_alloc w o b this⟩
theorem Ev.new {q : Nat} {x : Obj} {r : Value} (hq : ρ q = none) : Ev M ρ G M (upd ρ q (some r)) (upd G q x) := by
  refine ⟨Mem.le_refl M, fun o v h => .inl ?_, fun o hb et sz xs fr h => ?_⟩
  · have : o ≠ q := fun e => by subst e; rw [hq] at h; cases h
    simp [upd, this, h]
  · have : o ≠ q := fun e => by subst e; exact hb hq
    simp only [upd, if_neg this] at h ⊢
    exact ⟨xs, fr, h, Nat.le_refl _, fun _ => trivial⟩
theorem Ev.same {q : Nat} {x : Obj} {r : Value} (hq : ρ q = some r) (hx : ∀ et sz xs fr, x = .row et sz xs fr → ∃ xs0 fr0, G q = .row et sz xs0 fr0 ∧ xs0.length = xs.length) :
    Ev M ρ G M (upd ρ q (some r)) (upd G q x) := by
  have e : upd ρ q (some r) = ρ := by funext o; by_cases h : o = q <;> simp [upd, h, hq]
  rw [e]
  refine ⟨Mem.le_refl M, fun o v h => .inl h, fun o hb et sz xs fr h => ?_⟩
  by_cases ho : o = q
  · subst ho
    simp only [upd, if_true] at h
    obtain ⟨xs0, fr0, h1, h2⟩ := hx et sz xs fr h
    exact ⟨xs0, fr0, h1, by omega, fun _ => rfl⟩
  · simp only [upd, if_neg ho] at h
    exact ⟨xs, fr, h, Nat.le_refl _, fun _ => rfl⟩
end Go.Abs

/- The abstract interpreter: values, types, operands. -/
namespace Go.Abs
variable {M M' : Mem} {ρ ρ' : Ref} {G G' : Nat → Obj} {w w' : World} {nx : Nat} {Q : Nat → Prop} {P : Program}
/-! ### cells -/
theorem VI.cells {x : IV} {v : Value} (h : VI M x v) : VL (VI M) x.cells v.cells := by
  cases h with
  | agg xs vs h hl => exact ⟨h, hl⟩
  | _ =>
    refine ⟨rfl, fun i y hy => ?_⟩
    cases i with
    | zero => simp [IV.cells] at hy; subst hy; simp only [at_, Value.cells]; first | exact .bool _ | exact .int _ _ | exact .str _ | exact .nil | exact .empty _ _ _ | constructor <;> assumption
    | succ i => simp [IV.cells] at hy
theorem VA.one {x : AV} {v : Value} (h : VA M ρ G x v) (h1 : x.one = true) : v.oneCell' = true := by
  cases h with
  | imm x v h => cases h <;> first | rfl | simp [AV.one] at h1
  | undef => simp [AV.one] at h1
  | agg => simp [AV.one] at h1
  | tup => simp [AV.one] at h1
  | _ => rfl
theorem AV.fits_len {x : AV} {n : Nat} (h : x.fits n = true) : x.cells.length = n := by simp [AV.fits] at h; exact h.1
theorem AV.fits_one {x : AV} {n : Nat} (h : x.fits n = true) : ∀ y ∈ x.cells, y.one = true := by simp [AV.fits] at h; exact h.2
theorem VA.cells {x : AV} {v : Value} (h : VA M ρ G x v) {n : Nat} (hf : x.fits n = true) : VL (VA M ρ G) x.cells v.cells := by
  have h1 := AV.fits_one hf
  cases h with
  | imm x v h =>
    have hc := h.cells
    cases x with
    | agg cs => simp only [AV.cells]; exact ⟨by simpa [IV.cells] using hc.1, fun i y hy => by
        rw [List.getElem?_map] at hy
        cases e : cs[i]? with
        | none => rw [e] at hy; cases hy
        | some z => rw [e] at hy; cases hy; exact .imm _ _ (hc.2 i z e)⟩
    | _ =>
      refine ⟨by simpa [AV.cells, IV.cells] using hc.1, fun i y hy => ?_⟩
      cases i with
      | zero => simp [AV.cells] at hy; subst hy; exact .imm _ _ (hc.2 0 _ (by simp [IV.cells]))
      | succ i => simp [AV.cells] at hy
  | undef => simp [AV.cells, AV.one] at h1
  | agg xs vs h hl => exact ⟨h, hl⟩
  | tup xs vs h hl => simp [AV.cells, AV.one] at h1
  | nils => exact ⟨rfl, fun i y hy => by cases i with
      | zero => simp [AV.cells] at hy; subst hy; exact .nils
      | succ i => simp [AV.cells] at hy⟩
  | ptr o off b h => exact ⟨rfl, fun i y hy => by cases i with
      | zero => simp [AV.cells] at hy; subst hy; exact .ptr o off b h
      | succ i => simp [AV.cells] at hy⟩
  | row o n a l c hb h => exact ⟨rfl, fun i y hy => by cases i with
      | zero => simp [AV.cells] at hy; subst hy; exact .row o n a l c hb h
      | succ i => simp [AV.cells] at hy⟩
  | rptr o n i off b f hb h => exact ⟨rfl, fun i y hy => by cases i with
      | zero => simp [AV.cells] at hy; subst hy; exact .rptr o n _ off b f hb h
      | succ i => simp [AV.cells] at hy⟩
  | map o b h => exact ⟨rfl, fun i y hy => by cases i with
      | zero => simp [AV.cells] at hy; subst hy; exact .map o b h
      | succ i => simp [AV.cells] at hy⟩
  | yld o l h => exact ⟨rfl, fun i y hy => by cases i with
      | zero => simp [AV.cells] at hy; subst hy; exact .yld o l h
      | succ i => simp [AV.cells] at hy⟩
  | fn f cap vs h hl => exact ⟨rfl, fun i y hy => by cases i with
      | zero => simp [AV.cells] at hy; subst hy; exact .fn f cap vs h hl
      | succ i => simp [AV.cells] at hy⟩
theorem VL.one {l : List AV} {vs : Array Value} (h : VL (VA M ρ G) l vs) (h1 : ∀ y ∈ l, y.one = true) : ∀ v ∈ vs, v.oneCell' = true := by
  intro v hv
  obtain ⟨i, hi, rfl⟩ := Array.mem_iff_getElem.1 hv
  have hl : i < l.length := by rw [h.1]; exact hi
  have := h.2 i l[i] (List.getElem?_eq_getElem hl)
  have e : at_ vs i = vs[i] := by simp [at_, Array.getD_eq_getD_getElem?, hi]
  rw [e] at this
  exact this.one (h1 _ (List.getElem_mem hl))
theorem VA.imm_inv {x : IV} {c : Value} (h : VA M ρ G (.imm x) c) : VI M x c := by cases h with | imm _ _ h => exact h
theorem VA.int_inv {k : IntKind} {n : Int} {c : Value} (h : VA M ρ G (.imm (.int k n)) c) : c = .int k n := by have h := h.imm_inv; cases h; rfl
theorem VA.bool_inv {b : Bool} {c : Value} (h : VA M ρ G (.imm (.bool b)) c) : c = .bool b := by have h := h.imm_inv; cases h; rfl
theorem VA.str_inv {s : ByteArray} {c : Value} (h : VA M ρ G (.imm (.str s)) c) : c = .string s := by have h := h.imm_inv; cases h; rfl
theorem allImm_some {cs : List AV} {l : List IV} (h : allImm cs = some l) : cs = l.map .imm := by
  induction cs generalizing l with
  | nil => simp [allImm] at h; subst h; rfl
  | cons v r ih =>
    cases v <;> simp only [allImm, Option.map_eq_some_iff, reduceCtorEq] at h
    obtain ⟨a, ha, rfl⟩ := h
    rw [ih ha]; rfl
theorem VL_imm {l : List IV} {vs : Array Value} (h : VL (VA M ρ G) (l.map .imm) vs) : VL (VI M) l vs := by
  refine ⟨by simpa using h.1, fun i x hx => ?_⟩
  have := h.2 i (.imm x) (by simp [hx])
  cases this; assumption
theorem VA_mkAgg {cs : List AV} {vs : Array Value} (h : VL (VA M ρ G) cs vs) : VA M ρ G (mkAgg cs) (.agg vs) := by
  unfold mkAgg
  cases e : allImm cs with
  | none => exact .agg cs vs h.1 h.2
  | some l => rw [allImm_some e] at h; have := VL_imm h; exact .imm _ _ (.agg l vs this.1 this.2)
theorem VA_mkTup {cs : List AV} {vs : Array Value} (h : VL (VA M ρ G) cs vs) : VA M ρ G (mkTup cs) (.tuple vs) := by
  unfold mkTup
  cases e : allImm cs with
  | none => exact .tup cs vs h.1 h.2
  | some l => rw [allImm_some e] at h; have := VL_imm h; exact .imm _ _ (.tup l vs this.1 this.2)
theorem VA_mkFn {f : Fn} {cs : List AV} {vs : Array Value} (h : VL (VA M ρ G) cs vs) : VA M ρ G (mkFn f cs) (.func f #[] vs) := by
  unfold mkFn
  cases e : allImm cs with
  | none => exact .fn f cs vs h.1 h.2
  | some l => rw [allImm_some e] at h; have := VL_imm h; exact .imm _ _ (.fn f l vs this.1 this.2)
/-! ### constants -/
theorem VA_cv1 (v : Value) : VA M ρ G (cv1 v) v := by
  unfold cv1
  split
  · exact .imm _ _ (.bool _)
  · exact .imm _ _ (.int _ _)
  · exact .imm _ _ (.str _)
  · exact .nils
  · exact .imm _ _ .nilp
  · exact .imm _ _ .nilmap
  · exact .imm _ _ .nilfn
  · exact .imm _ _ .niliface
  · exact .undef _
theorem at_toList {vs : Array Value} {i : Nat} {z : Value} (e : vs.toList[i]? = some z) : at_ vs i = z := by
  have e' : vs[i]? = some z := by rw [← Array.getElem?_toList]; exact e
  simp [at_, Array.getD_eq_getD_getElem?, e']
theorem VL_cv1 (vs : Array Value) : VL (VA M ρ G) (vs.toList.map cv1) vs := by
  refine ⟨by simp, fun i x hx => ?_⟩
  rw [List.getElem?_map] at hx
  cases e : vs.toList[i]? with
  | none => rw [e] at hx; cases hx
  | some z => rw [e] at hx; cases hx; rw [at_toList e]; exact VA_cv1 z
theorem cv_agg (cs : Array Value) : cv (.agg cs) = mkAgg (cs.toList.map cv1) := rfl
theorem cv_other {v : Value} (h : ∀ cs, v ≠ .agg cs) : cv v = cv1 v := by
  cases v <;> first | rfl | exact absurd rfl (h _)
theorem VA_cv (v : Value) : VA M ρ G (cv v) v := by
  by_cases h : ∃ cs, v = .agg cs
  · obtain ⟨cs, rfl⟩ := h
    rw [cv_agg]; exact VA_mkAgg (VL_cv1 cs)
  · rw [cv_other fun cs e => h ⟨cs, e⟩]; exact VA_cv1 v
theorem cells_mkAgg (l : List AV) : (mkAgg l).cells = l := by
  unfold mkAgg
  cases e : allImm l with
  | none => rfl
  | some x => simp only [AV.cells]; exact (allImm_some e).symm
theorem cells_one {a : AV} (h1 : ∀ l, a ≠ .imm (.agg l)) (h2 : ∀ l, a ≠ .agg l) : a.cells = [a] := by
  cases a with
  | imm x => cases x <;> first | rfl | exact absurd rfl (h1 _)
  | agg l => exact absurd rfl (h2 l)
  | _ => rfl
theorem cv1_not (v : Value) : (∀ l, cv1 v ≠ .imm (.agg l)) ∧ (∀ l, cv1 v ≠ .agg l) := by
  unfold cv1
  split <;> exact ⟨fun l => by simp, fun l => by simp⟩
theorem cells_cv (v : Value) : (cv v).cells.length = v.cells.size ∧ VL (VA M ρ G) (cv v).cells v.cells := by
  by_cases h : ∃ cs, v = .agg cs
  · obtain ⟨cs, rfl⟩ := h
    rw [cv_agg, cells_mkAgg]; exact ⟨by simp [Value.cells], VL_cv1 cs⟩
  · have hn : ∀ cs, v ≠ .agg cs := fun cs e => h ⟨cs, e⟩
    have hv : v.cells = #[v] := by cases v <;> first | rfl | exact absurd rfl (hn _)
    rw [cv_other hn, cells_one (cv1_not v).1 (cv1_not v).2, hv]
    refine ⟨rfl, rfl, fun i x hx => ?_⟩
    cases i with
    | zero => simp at hx; subst hx; exact VA_cv1 v
    | succ i => simp at hx
/-! ### operands -/
def evV (arr : Array Value) : Operand → Value
  | .tmp t => arr.getD t Go.undef
  | .const v => v
  | .global g => .pointer (some ⟨g, 0, none⟩)
  | .func f => .func (.func f) #[] #[]
def TR (M : Mem) (ρ : Ref) (G : Nat → Obj) (tmps : Nat → AV) (arr : Array Value) : Prop := ∀ t, VA M ρ G (tmps t) (arr.getD t Go.undef)
theorem TR.ev {tmps : Nat → AV} {arr : Array Value} (h : TR M ρ G tmps arr) (x : Operand) : VA M ρ G (ev tmps x) (evV arr x) := by
  cases x with
  | tmp t => exact h t
  | const v => exact VA_cv v
  | global g => exact .undef _
  | func f => exact .imm _ _ (.fn _ _ _ rfl (fun i x hx => by simp at hx))
theorem TR.mono {tmps : Nat → AV} {arr : Array Value} (h : TR M ρ G tmps arr) (hv : Ev M ρ G M' ρ' G') : TR M' ρ' G' tmps arr := fun t => (h t).mono hv
/-! ### types -/
theorem tyOf_some {t : TypeId} {i : TyI} (h : tyOf P t = some i) :
    ∃ info zv d, P.info? t = some info ∧ P.underlying t = some d ∧ info.zero = some zv ∧ fieldsOk P d = true ∧ i.d = tyd P d ∧ i.sz = info.size ∧ i.bytes = info.bytes ∧ i.zero = cv zv := by
  unfold tyOf at h
  split at h
  · rename_i info d h1 h2
    split at h
    · rename_i zv h3 h4
      cases h
      exact ⟨info, zv, d, h1, h2, h3, h4, rfl, rfl, rfl, rfl⟩
    · cases h
  · cases h
theorem run_typeInfo' {t : TypeId} {info : TypeInfo} (h : P.info? t = some info) : (typeInfo t).run P w = .ok info w := by simp [typeInfo, h]
theorem run_sizeOf' {t : TypeId} {info : TypeInfo} (h : P.info? t = some info) : (sizeOf t).run P w = .ok info.size w := by simp [sizeOf, run_typeInfo' h]
theorem run_underlying' {t : TypeId} {d : TypeDesc} (h : P.underlying t = some d) : (underlying t).run P w = .ok d w := by simp [underlying, h]
theorem run_zeroValue' {t : TypeId} {info : TypeInfo} {v : Value} (h : P.info? t = some info) (hz : info.zero = some v) : (zeroValue t).run P w = .ok v w := by simp [zeroValue, run_typeInfo' h, hz]
theorem run_isAgg' {t : TypeId} {d : TypeDesc} (h : P.underlying t = some d) : (isAgg t).run P w = .ok (tyd P d).isAgg w := by
  simp only [isAgg, Sem.run_bind, run_underlying' h, Result.andThen_ok]
  cases d <;> rfl
end Go.Abs

/- The abstract interpreter: reading. -/
namespace Go.Abs
variable {M M' : Mem} {ρ ρ' : Ref} {G G' : Nat → Obj} {w w' : World} {nx : Nat} {Q : Nat → Prop} {P : Program}
theorem sub_some {α : Type} {l : List α} {off n : Nat} {cs : List α} (h : sub l off n = some cs) : off + n ≤ l.length ∧ cs = (l.drop off).take n := by
  unfold sub at h
  split at h
  · cases h; exact ⟨by assumption, rfl⟩
  · cases h
theorem sub_get {α : Type} {l : List α} {off n : Nat} {cs : List α} (h : sub l off n = some cs) : off + n ≤ l.length ∧ cs.length = n ∧ ∀ (j : Nat) y, cs[j]? = some y → j < n ∧ l[off + j]? = some y := by
  obtain ⟨h1, rfl⟩ := sub_some h
  refine ⟨h1, by simp; omega, fun j y hy => ?_⟩
  have hj : j < n := by
    have := (List.getElem?_eq_some_iff.1 hy).1
    simp at this; omega
  rw [List.getElem?_take, if_pos hj, List.getElem?_drop] at hy
  exact ⟨hj, hy⟩
def CellsAt (w : World) (M : Mem) (ρ : Ref) (G : Nat → Obj) (cs : List AV) (b off : Nat) : Prop :=
  ∃ vs e fr, w.heap[b]? = some (.cells vs e fr) ∧ off + cs.length ≤ vs.size ∧ ∀ (j : Nat) y, cs[j]? = some y → VA M ρ G y (at_ vs (off + j))
theorem list_getD_take {l : List Value} {n i : Nat} (h : i < n) : (l.take n).getD i Go.undef = l.getD i Go.undef := by
  simp [List.getD_eq_getElem?_getD, h]
theorem at_list (vs : Array Value) (i : Nat) : vs.toList.getD i Go.undef = at_ vs i := by
  simp [at_, List.getD_eq_getElem?_getD, Array.getD_eq_getD_getElem?]
theorem imm_get {l : List IV} {j : Nat} {y : AV} (h : (l.map AV.imm)[j]? = some y) : ∃ z, y = .imm z ∧ l[j]? = some z := by
  rw [List.getElem?_map] at h
  cases e : l[j]? with
  | none => rw [e] at h; cases h
  | some z => rw [e] at h; cases h; exact ⟨z, rfl, rfl⟩
theorem row_block {et : TypeId} {sz : Nat} {xs : List AV} {fr : Bool} {q : Nat} (hI : Inv Q w M ρ G nx) (hG : G q = .row et sz xs fr) {b l c : Nat} (hr : ρ q = some (.slice (some ⟨b, 0, none⟩) l c)) :
    l = xs.length ∧ 0 < sz ∧ l ≤ c ∧ c ≤ maxLen ∧ ∃ cur, w.heap[b]? = some (.cells cur et (0, 0)) ∧ cur.size = c * sz ∧ (∀ x ∈ xs, x.fits sz = true) ∧
      ∀ (i : Nat) x (j : Nat) y, xs[i]? = some x → x.cells[j]? = some y → VA M ρ G y (at_ cur (i * sz + j)) := by
  have := hI.obj q
  unfold ObjOK at this
  rw [hG] at this
  obtain ⟨h0, v, cs, h1, h2, h3, h4⟩ := this
  rw [hr] at h1; cases h1
  rcases h2.2 with ⟨h, _⟩ | ⟨g, cap, cur, h, _, h5, h6, h7, h8, h9⟩
  · cases h
  · cases h
    refine ⟨rfl, h0, h6, h7, cur, h5, h8, h3.fit, fun i x j y hx hy => ?_⟩
    have hi := (List.getElem?_eq_some_iff.1 hx).1
    have hj := (List.getElem?_eq_some_iff.1 hy).1
    have hl := AV.fits_len (h3.fit x (List.mem_of_getElem? hx))
    have hlt : i * sz + j < xs.length * sz := by
      have : i * sz + sz ≤ xs.length * sz := by rw [← Nat.succ_mul]; exact Nat.mul_le_mul_right _ hi
      omega
    have := h3.cell i x j y hx hy
    rw [← h9, list_getD_take hlt, at_list] at this
    exact this
theorem readAt_ok {n : Nat} {a : AV} {c : Value} {cs : List AV} (h : readAt G n a = some cs) (hI : Inv Q w M ρ G nx) (ha : VA M ρ G a c) :
    cs.length = n ∧ ∃ b off, c = .pointer (some ⟨b, off, none⟩) ∧ CellsAt w M ρ G cs b off := by
  cases a with
  | ptr o off =>
    simp only [readAt] at h
    split at h
    · rename_i bs fr e
      obtain ⟨h1, h2, h3⟩ := sub_get h
      cases ha with
      | ptr _ _ b hr =>
        have := hI.obj o
        unfold ObjOK at this
        rw [e] at this
        obtain ⟨b', vs, e', g1, g2, g3, _⟩ := this
        rw [hr] at g1; cases g1
        refine ⟨h2, b, off, rfl, vs, e', _, g2, by rw [h2, ← g3.1]; exact h1, fun j y hy => ?_⟩
        exact g3.2 _ _ (h3 j y hy).2
    · cases h
  | rptr o m i off =>
    simp only [readAt] at h
    split at h
    · rename_i et sz xs fr e
      split at h
      · rename_i hm
        split at h
        · rename_i x hx
          obtain ⟨h1, h2, h3⟩ := sub_get h
          cases ha with
          | rptr _ _ _ _ b f hb hr1 =>
            obtain ⟨_, hr2⟩ := hr1 et sz xs fr e
            obtain ⟨l, c, hr3, rfl⟩ := hr2 hm.symm
            obtain ⟨rfl, h0, _, _, cur, g1, g2, g3, g4⟩ := row_block hI e hr3
            have hl := AV.fits_len (g3 x (List.mem_of_getElem? hx))
            have hi := (List.getElem?_eq_some_iff.1 hx).1
            refine ⟨h2, b, _, rfl, cur, et, _, g1, ?_, fun j y hy => ?_⟩
            · have h5 : i * sz + sz ≤ xs.length * sz := by rw [← Nat.succ_mul]; exact Nat.mul_le_mul_right _ hi
              have h6 : xs.length * sz ≤ c * sz := Nat.mul_le_mul_right _ (by omega)
              rw [h2]; omega
            · have := g4 i x (off + j) y hx (h3 j y hy).2
              rw [show i * sz + off + j = i * sz + (off + j) by omega]; exact this
        · cases h
      · cases h
    · cases h
  | imm x =>
    cases ha with
    | imm _ _ hv =>
    cases x with
    | fptr bs off =>
      simp only [readAt, Option.map_eq_some_iff] at h
      obtain ⟨l, h, rfl⟩ := h
      obtain ⟨h1, h2, h3⟩ := sub_get h
      cases hv with
      | fptr _ _ b vs e fr o0 hM hz hl =>
        refine ⟨by simpa using h2, b, _, rfl, vs, e, fr, hI.mem _ _ hM, by simp; omega, fun j y hy => ?_⟩
        obtain ⟨z, rfl, hz⟩ := imm_get hy
        have := hl _ _ (h3 j z hz).2
        rw [show o0 + off + j = o0 + (off + j) by omega]
        exact .imm _ _ this
    | eptr xs i off =>
      simp only [readAt] at h
      split at h
      · rename_i x hx
        simp only [Option.map_eq_some_iff] at h
        obtain ⟨l, h, rfl⟩ := h
        obtain ⟨h1, h2, h3⟩ := sub_get h
        cases hv with
        | eptr _ _ _ b vs e fr o0 sz hM hs hz1 hz2 hl =>
          have hi := (List.getElem?_eq_some_iff.1 hx).1
          have hxl := hz1 i x hx
          have h5 : i * sz + sz ≤ xs.length * sz := by rw [← Nat.succ_mul]; exact Nat.mul_le_mul_right _ hi
          refine ⟨by simpa using h2, b, _, rfl, vs, e, fr, hI.mem _ _ hM, by simp; omega, fun j y hy => ?_⟩
          obtain ⟨z, rfl, hz⟩ := imm_get hy
          have := hl i x (off + j) z hx (h3 j z hz).2
          rw [show o0 + i * sz + off + j = o0 + i * sz + (off + j) by omega]
          exact .imm _ _ this
      · cases h
    | _ => simp [readAt] at h
  | _ => simp [readAt] at h
theorem add_none (b off n : Nat) : (⟨b, off, none⟩ : Addr).add n = ⟨b, off + n, none⟩ := Addr.add_lit b off n
theorem cell_at {w : World} {b i : Nat} {vs : Array Value} {e : TypeId} {fr : Nat × Nat} (hg : w.heap[b]? = some (.cells vs e fr)) (hi : i < vs.size) : w.cell? ⟨b, i, none⟩ = some (at_ vs i) := by
  rw [cell_of_row w b i vs e fr hg]
  simp [at_, Array.getD_eq_getD_getElem?, hi]
theorem loadVar_ok {t : TypeId} {i : TyI} {cs : List AV} {b off : Nat} (ht : tyOf P t = some i) (hc : CellsAt w M ρ G cs b off) (hn : cs.length = i.sz) (h1c : i.d.isAgg = false → ∃ v, cs = [v]) :
    ∃ u, (loadVar t ⟨b, off, none⟩).run P w = .ok u w ∧ (if i.d.isAgg then VA M ρ G (mkAgg cs) u else ∀ v, cs = [v] → VA M ρ G v u) := by
  obtain ⟨info, zv, d, h1, h2, h3, _, h4, h5, _⟩ := tyOf_some ht
  obtain ⟨vs, e, fr, g1, g2, g3⟩ := hc
  have hld : (loadCells ⟨b, off, none⟩ info.size).run P w = .ok ((List.range info.size).map fun j => at_ vs (off + j)).toArray w :=
    run_loadCells w ⟨b, off, none⟩ info.size _ fun j hj => by rw [add_none]; exact cell_at g1 (by omega)
  simp only [loadVar, Sem.run_bind, run_isAgg' h2, Result.andThen_ok, ← h4]
  cases hag : i.d.isAgg with
  | true =>
    simp only [if_true, Sem.run_bind, run_sizeOf' h1, Result.andThen_ok, hld, Sem.run_pure]
    refine ⟨_, rfl, VA_mkAgg ⟨by simp; omega, fun j y hy => ?_⟩⟩
    have hj := (List.getElem?_eq_some_iff.1 hy).1
    have : at_ ((List.range info.size).map fun j => at_ vs (off + j)).toArray j = at_ vs (off + j) := by
      apply at_toList; simp [List.getElem?_range (show j < info.size by omega)]
    rw [this]; exact g3 j y hy
  | false =>
    simp only [Bool.false_eq_true, if_false]
    obtain ⟨v0, rfl⟩ := h1c hag
    have h0 : off < vs.size := by simp at g2; omega
    refine ⟨at_ vs off, by rw [run_load, cell_at g1 h0], fun v hv => ?_⟩
    cases hv
    exact g3 0 v0 rfl
/-! ### writing -/
theorem aLoad_ok {t : TypeId} {a v : AV} {c : Value} {ups : List (Nat × U)} {C : Cfg} (h : aLoad C G t a = some (.val v ups)) (hI : Inv Q w M ρ G nx) (ha : VA M ρ G a c) :
    ups = [] ∧ ∃ u, (Instr.loadAt t c).run C.P w = .ok u w ∧ VA M ρ G v u := by
  unfold aLoad at h
  split at h
  · rename_i i hi
    split at h
    · rename_i cs hcs
      obtain ⟨hn, b, off, rfl, hc⟩ := readAt_ok hcs hI ha
      have hl : ∀ (hone : i.d.isAgg = false → ∃ v, cs = [v]), ∃ u, (Instr.loadAt t (.pointer (some ⟨b, off, none⟩))).run C.P w = .ok u w ∧ (if i.d.isAgg then VA M ρ G (mkAgg cs) u else ∀ v, cs = [v] → VA M ρ G v u) := by
        intro hone
        obtain ⟨u, h1, h2⟩ := loadVar_ok (P := C.P) hi hc hn hone
        exact ⟨u, by simp [Instr.loadAt, Instr.sureAddr, h1], h2⟩
      split at h
      · rename_i hag
        cases h
        obtain ⟨u, h1, h2⟩ := hl (fun e => by rw [hag] at e; cases e)
        rw [if_pos hag] at h2
        exact ⟨rfl, u, h1, h2⟩
      · rename_i hag
        split at h
        · rename_i v'
          cases h
          obtain ⟨u, h1, h2⟩ := hl (fun _ => ⟨_, rfl⟩)
          rw [if_neg hag] at h2
          exact ⟨rfl, u, h1, h2 _ rfl⟩
        · cases h
    · cases h
  · cases h
end Go.Abs

/- The abstract interpreter: operations. -/
namespace Go.Abs
variable {id : Nat}
variable {M M' : Mem} {ρ ρ' : Ref} {G G' : Nat → Obj} {w w' : World} {nx : Nat} {Q : Nat → Prop} {P : Program} {C : Cfg}
def MQ (Q : Nat → Prop) (M M' : Mem) : Prop := ∀ b, M' b ≠ none → M b ≠ none ∨ Q b
theorem MQ.refl (Q : Nat → Prop) (M : Mem) : MQ Q M M := fun _ h => .inl h
theorem MQ.trans {A B D : Mem} (h : MQ Q A B) (k : MQ Q B D) : MQ Q A D := fun b hb => (k b hb).elim (h b) .inr
def Good (id : Nat) (Q : Nat → Prop) (M : Mem) (ρ : Ref) (G : Nat → Obj) (nx : Nat) (w : World) (G' : Nat → Obj) (v : AV) (r : Result Next) : Prop :=
  ∃ nxt c w' M' ρ', r = .ok nxt w' ∧ (nxt = .value c ∨ nxt = .skip ∧ c = Go.undef) ∧ Ev M ρ G M' ρ' G' ∧ Inv Q w' M' ρ' G' nx ∧ VA M' ρ' G' v c ∧ WS Q w w' ∧ MQ Q M M' ∧ ∀ o, o ≠ id → ρ o = none → ρ' o = none
theorem Good.pure {v : AV} {c : Value} {r : Result Next} (hI : Inv Q w M ρ G nx) (hr : r = .ok (.value c) w) (hv : VA M ρ G v c) : Good id Q M ρ G nx w G v r :=
  ⟨_, c, w, M, ρ, hr, .inl rfl, Ev.refl _ _ _, hI, hv, WS.refl _ _, MQ.refl _ _, fun _ _ e => e⟩
def vNext (s : Sem Value) : Sem Next := do pure (.value (← s))
def uNext (s : Sem Unit) : Sem Next := do s; pure .skip
theorem run_vNext {s : Sem Value} {c : Value} (h : s.run P w = .ok c w') : (vNext s).run P w = .ok (.value c) w' := by simp [vNext, h]
theorem run_uNext {s : Sem Unit} {u : Unit} (h : s.run P w = .ok u w') : (uNext s).run P w = .ok .skip w' := by simp [uNext, h]
theorem good_box {id : Nat} {cs : List AV} {vs : Array Value} {t : TypeId} (hI : Inv Q w M ρ G nx) (hid : ρ id = none) (hlt : id < nx) (hc : VL (VA M ρ G) cs vs) {s : Sem Value}
    (hs : s.run P w = .ok (.pointer (some ⟨w.heap.size, 0, none⟩)) (w.alloc (.cells vs t))) :
    Good id Q M ρ G nx w (updL G [(id, .set (.box cs false))]) (.ptr id 0) ((vNext s).run P w) := by
  have hv : Ev M ρ G M (upd ρ id (some (.pointer (some ⟨w.heap.size, 0, none⟩)))) (upd G id (.box cs false)) := Ev.new hid
  refine ⟨_, _, _, M, upd ρ id (some (.pointer (some ⟨w.heap.size, 0, none⟩))), run_vNext hs, .inl rfl, hv, ?_, ?_, WS.alloc hI.new _, MQ.refl _ _, fun o h e => by simp [upd, h, e]⟩
  · refine hI.put hlt hv (fun b => ?_) (by simp) ?_ (fun b hb => ?_)
    · rcases Nat.lt_or_ge b w.heap.size with h | h
      · exact .inl (Go.RowKit.Below.heap_alloc w _ b h)
      · exact .inr (.inl h)
    · unfold ObjOK
      simp only [upd, if_true]
      exact ⟨w.heap.size, vs, t, rfl, heap_alloc_new w _, hc.imp fun _ _ => VA.mono hv, fun h => by cases h⟩
    · simp [blk] at hb; exact .inl (by omega)
  · exact .ptr id 0 w.heap.size (by simp [upd])
theorem aAlloc_ok {id : Nat} {t : TypeId} {v : AV} {ups : List (Nat × U)} (h : aAlloc C id t = some (.val v ups)) (hI : Inv Q w M ρ G nx) (hid : ρ id = none) (hlt : id < nx) :
    Good id Q M ρ G nx w (updL G ups) v ((vNext (Instr.alloc t true (.tuple #[]))).run C.P w) := by
  unfold aAlloc at h
  split at h
  · rename_i i hi
    split at h
    · cases h
      obtain ⟨info, zv, d, h1, h2, h3, _, h4, h5, h6, h7⟩ := tyOf_some hi
      rw [h7]
      exact good_box (t := t) hI hid hlt (cells_cv zv).2 (by simp [Instr.alloc, run_zeroValue' h1 h3, newVar, newRow])
    · cases h
  · cases h
theorem aBox_ok {id : Nat} {t : TypeId} {x v : AV} {c : Value} {ups : List (Nat × U)} (h : aBox C id t x = some (.val v ups)) (hI : Inv Q w M ρ G nx) (hid : ρ id = none) (hlt : id < nx) (hx : VA M ρ G x c) :
    Good id Q M ρ G nx w (updL G ups) v ((vNext (Instr.box t c)).run C.P w) := by
  unfold aBox at h
  split at h
  · rename_i i hi
    split at h
    · rename_i hf
      cases h
      exact good_box (t := t) hI hid hlt (hx.cells hf) (by simp [Instr.box, newVar, newRow])
    · cases h
  · cases h
end Go.Abs
