/- The seat: the program's types, its functions that are called by reference, and those with a contract. -/
import Derived.Test.YtpkmljhdaijanaaAbsWp2
import Derived.Test.YtpkmljhdaijanaaProg
import Derived.KernelRfl
import Derived.Laws.Strings
open Go Go.Abs
namespace Go.Abs

def byrefs : Nat → Bool := fun f => [103,104,89,80,81,83,82,102,41,78,85].contains f

def ints : List IV → List Int
  | [] => []
  | .int _ n :: r => n :: ints r
  | _ :: r => ints r

def ins (x : Int) : List Int → List Int
  | [] => [x]
  | y :: r => if x ≤ y then x :: y :: r else y :: ins x r
def isort : List Int → List Int
  | [] => []
  | x :: r => ins x (isort r)

def isStrIV : IV → Bool
  | .str _ => true
  | _ => false
def isIntIV : IV → Bool
  | .int .i64 _ => true
  | _ => false

def orcs : Nat → List IV → Option OrcR
  | 56, [.lst xs] => if xs.all isStrIV = true ∧ xs.length ≤ 4294967296 then some (.own 9 1 xs) else none
  | 48, [.fmp ks _] => if ks.all isIntIV = true ∧ ks.length ≤ 4294967296 then some (.own 3 1 ((isort (ints ks)).map (.int .i64))) else none
  | _, _ => none
noncomputable def CC : Cfg := { P := Go.Proofs.Try.prog, byref := byrefs, orc := orcs }
def ty3 : TyI := { d := TyD.int Go.IntKind.i64, sz := 1, bytes := 8, zero := AV.imm (IV.int Go.IntKind.i64 (0)) }
instance tyis3 : TyIs CC 3 ty3 := ⟨by kernel_rfl⟩
def ty4 : TyI := { d := TyD.bool, sz := 1, bytes := 1, zero := AV.imm (IV.bool Bool.false) }
instance tyis4 : TyIs CC 4 ty4 := ⟨by kernel_rfl⟩
def ty5 : TyI := { d := TyD.int Go.IntKind.u8, sz := 1, bytes := 1, zero := AV.imm (IV.int Go.IntKind.u8 (0)) }
instance tyis5 : TyIs CC 5 ty5 := ⟨by kernel_rfl⟩
def ty9 : TyI := { d := TyD.str, sz := 1, bytes := 16, zero := AV.imm (IV.str { data := { toList := [] } }) }
instance tyis9 : TyIs CC 9 ty9 := ⟨by kernel_rfl⟩
def ty22 : TyI := { d := TyD.sl 9, sz := 1, bytes := 24, zero := AV.nils }
instance tyis22 : TyIs CC 22 ty22 := ⟨by kernel_rfl⟩
def ty61 : TyI := { d := TyD.mp 9 4, sz := 1, bytes := 8, zero := AV.imm IV.nilmap }
instance tyis61 : TyIs CC 61 ty61 := ⟨by kernel_rfl⟩
def ty103 : TyI := { d := TyD.sl 5, sz := 1, bytes := 24, zero := AV.nils }
instance tyis103 : TyIs CC 103 ty103 := ⟨by kernel_rfl⟩

/-- A call that is reckoned whole. -/
noncomputable def retOf (C : Cfg) (n : Nat) (f : FuncId) (ivs : List IV) : Option IV := match (low C n).call f (ivs.map .imm) .no (fun _ => .gone) 0 with
  | some (.ret v G' _, _) => match peek G' pkDepth v with
    | some (x, _) => some x
    | none => none
  | _ => none
theorem Ret.reckon {n : Nat} {f : FuncId} {ivs : List IV} {x : IV} {C : Cfg} (h : retOf C n f ivs = some x) : Ret C f ivs x := by
  unfold retOf at h
  split at h
  · rename_i v G' nx' pk' hc
    split at h
    · rename_i y ids hp
      cases h
      exact ⟨n, v, G', nx', pk', ids, hc, hp⟩
    · cases h
  · cases h

/-! strings, as lists of their bytes -/
abbrev Str := List UInt8
def sv (s : Str) : IV := .str ⟨s.toArray⟩

theorem sv_size (s : Str) : (ByteArray.mk s.toArray).size = s.length := by simp [ByteArray.size]
theorem sv_toList (s : Str) : (ByteArray.mk s.toArray).toList = s := by rw [ByteArray.toList_eq]
theorem sv_get (s : Str) (i : Nat) : (ByteArray.mk s.toArray).data.getD i 0 = s.getD i 0 := by simp
theorem sv_eta (b : ByteArray) : IV.str b = sv b.data.toList := by cases b; simp [sv]
theorem sv_beq (a b : Str) : ((ByteArray.mk a.toArray) == (ByteArray.mk b.toArray)) = (a == b) := by
  show (a.toArray == b.toArray) = (a == b)
  simp
theorem sv_append (a b : Str) : (ByteArray.mk a.toArray) ++ (ByteArray.mk b.toArray) = ByteArray.mk (a ++ b).toArray := by
  apply ByteArray.ext
  simp

variable {C : Cfg} {l : Env} {G : Nat → Obj} {nx : Nat} {df : List (AV × List AV)} {pk : Pk} {id : Nat}

theorem O.svEq {t : TypeId} {x y : Operand} {t2 : TypeId} {a b : Str} (hx : lookO l x = some (.imm (sv a))) (hy : lookO l y = some (.imm (sv b))) : OpV C id l G nx df pk (.binOp .eql t x y t2) (.imm (.bool (a == b))) [] :=
  O.str hx hy (by simp only [strOp, sv_toList])
theorem O.svNe {t : TypeId} {x y : Operand} {t2 : TypeId} {a b : Str} (hx : lookO l x = some (.imm (sv a))) (hy : lookO l y = some (.imm (sv b))) : OpV C id l G nx df pk (.binOp .neq t x y t2) (.imm (.bool !(a == b))) [] :=
  O.str hx hy (by simp only [strOp, sv_toList])
theorem O.svAdd {t : TypeId} {x y : Operand} {t2 : TypeId} {a b : Str} (hx : lookO l x = some (.imm (sv a))) (hy : lookO l y = some (.imm (sv b))) (h : a.length + b.length ≤ 9223372036854775807) : OpV C id l G nx df pk (.binOp .add t x y t2) (.imm (sv (a ++ b))) [] :=
  O.str hx hy (by simp only [strOp, sv_size, if_pos h, sv_append, sv])
theorem O.lenSv {x : Operand} {t : TypeId} {k : TyI} [hk : TyIs C t k] {s : Str} (hx : lookO l x = some (.imm (sv s))) (hl : k.d = .str) : OpV C id l G nx df pk (.call { callee := .builtin .len, args := #[x], argTypes := #[t] }) (.imm (.int .i64 s.length)) [] := by
  have := O.lenS (C := C) (t := t) (id := id) (G := G) (nx := nx) (df := df) (pk := pk) hx hl
  rwa [sv_size] at this
theorem O.indexSv {x y : Operand} {t : TypeId} {k : TyI} {kk : IntKind} {s : Str} {n : Nat} {c : UInt8} [hk : TyIs C t k] (ht : k.d = .str) (hx : lookO l x = some (.imm (sv s))) (hy : lookO l y = some (.imm (.int kk n))) (hn : s[n]? = some c) :
    OpV C id l G nx df pk (.index t x y) (.imm (.int .u8 c.toNat)) [] := by
  have h1 : n < s.length := by
    rw [List.getElem?_eq_some_iff] at hn; exact hn.1
  have := O.index (C := C) (t := t) (id := id) (G := G) (nx := nx) (df := df) (pk := pk) ht hx hy ⟨Int.natCast_nonneg _, by rw [sv_size]; omega⟩
  rw [sv_get] at this
  have e : s.getD n 0 = c := by rw [List.getD_eq_getElem?_getD, hn]; rfl
  rwa [Int.toNat_natCast, e] at this

/-- A map's value, or zero. -/
def keyAt (k : IV) (ks vs : List IV) (z : IV) : Option IV := match keyFind k ks with
  | some (some j) => vs[j]?
  | some none => some z
  | none => none
theorem O.lookF {t kt e : TypeId} {m x : Operand} {k kk ke : TyI} {key z : IV} {ks vs : List IV} {u : IV} [hk : TyIs C t k] (ht : k.d = .mp kt e) [hkk : TyIs C kt kk] [hke : TyIs C e ke] (hm : lookO l m = some (.imm (.fmp ks vs))) (hx : lookO l x = some (.imm key)) (ho : keyOk kk.d key = true)
    (hz : ke.zero = .imm z) (hu : keyAt key ks vs z = some u) : OpV C id l G nx df pk (.lookup t m x false) (.imm u) [] := by
  refine O.of fun t' L hA => ?_
  unfold keyAt at hu
  simp only [opA, hA.ev hm, hA.ev hx, lookA, hk.is, ht, mapKV, hkk.is, if_pos ho]
  split at hu
  · rename_i j hj
    simp only [hj, List.getElem?_map, hu, Option.map_some]
    rfl
  · rename_i hj
    cases hu
    simp only [hj, hke.is, hz]
    rfl
  · cases hu
end Go.Abs
