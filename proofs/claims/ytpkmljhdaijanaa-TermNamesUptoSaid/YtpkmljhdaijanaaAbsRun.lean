/- The abstract interpreter: regions, code, calls. -/
import Derived.Test.YtpkmljhdaijanaaAbsDefs
import Derived.Orders
namespace Go.Abs

def wantA (ops : Array Oper) (tmps : Nat → AV) (o : Oper) : Option Bool :=
  match o.guard with
  | none => some true
  | some (j, want) => match (ops[j]?).bind (·.dst) with
    | some d => match tmps d with
      | .imm (.bool b) => some (b == want)
      | .imm (.tup []) => some false
      | _ => none
    | none => some false

def put (nt : Nat) (s : St) (dst : Option Nat) (v : AV) : Option St :=
  match dst with
  | some d => if d < nt then some { s with tmps := upd s.tmps d v } else none
  | none => some s

def stepA (C : Cfg) (L : Low) (nt : Nat) (ops : Array Oper) (id : Nat) (o : Oper) (s : St) : Option Out :=
  match wantA ops s.tmps o with
  | some true => match opA C L id s o.op with
    | some (.val v ups) => match put nt { s with G := updL s.G ups } o.dst v with
      | some s' => some (.norm s')
      | none => none
    | some (.wr v s1) => match put nt s1 o.dst v with
      | some s' => some (.norm s')
      | none => none
    | some (.pan v s1) => some (.pan v s1)
    | none => none
  | some false => match put nt s o.dst (.imm (.tup [])) with
    | some s' => some (.norm s')
    | none => none
  | none => none

/-- A region's operations, in the order of a list. -/
def runA (C : Cfg) (L : Low) (nt : Nat) (ops : Array Oper) (base : Nat) : List Nat → St → Option Out
  | [], s => some (.norm s)
  | i :: r, s => match ops[i]? with
    | none => runA C L nt ops base r s
    | some o => match stepA C L nt ops (base + i) o s with
      | some (.norm s') => runA C L nt ops base r s'
      | x => x

/-! ### what an operation of a region that draws its order reads, and writes -/
def touch (G : Nat → Obj) : Nat → AV → List Nat
  | 0, .row o _ | 0, .map o | 0, .rptr o _ _ _ | 0, .ptr o _ => [o]
  | _, .yld o => [o]
  | k + 1, .row o _ | k + 1, .rptr o _ _ _ => o :: match G o with
    | .row _ _ xs _ => xs.flatMap (touch G k)
    | _ => []
  | k + 1, .map o => o :: match G o with
    | .mp _ vs _ => vs.flatMap (touch G k)
    | _ => []
  | k + 1, .ptr o _ => o :: match G o with
    | .box cs _ => cs.flatMap (touch G k)
    | _ => []
  | k + 1, .fn _ cs | k + 1, .agg cs | k + 1, .tup cs => cs.flatMap (touch G k)
  | _, _ => []

def pureOp : Op → Bool
  | .move _ | .assign _ | .pick .. | .alloc _ | .box .. | .build .. | .nilCheck _ | .binOp .. | .unOp .. | .makeInterface .. | .makeFunc .. | .makeMap .. | .makeSlice .. | .buildSlice ..
  | .fieldAddr .. | .index .. | .extract .. | .typeAssert .. => true
  | _ => false

structure Fp where
  i : Nat
  rd : List Nat
  wr : List Nat
  fz : List Nat

def direct : AV → List Nat
  | .row o _ | .map o | .rptr o _ _ _ | .ptr o _ | .yld o => [o]
  | _ => []

def readsOf (s : St) (o : Op) : List Nat :=
  if pureOp o then [] else
  match o with
  | .call { callee := .builtin _, args, .. } => args.toList.flatMap fun x => direct (ev s.tmps x)
  | .call { callee := .value f, args, .. } => match fnOf (ev s.tmps f) with
    | some (_, cap) => (args.toList.map (ev s.tmps) ++ cap).flatMap (touch s.G pkDepth)
    | none => []
  | .slice _ x _ _ _ => touch s.G pkDepth (ev s.tmps x)
  | .store _ a _ => direct (ev s.tmps a)
  | .mapUpdate _ m _ _ | .insert _ m _ _ => direct (ev s.tmps m)
  | o => o.operands.toList.flatMap fun x => direct (ev s.tmps x)

def wrOf : List (Nat × U) → List Nat
  | [] => []
  | (o, .set _) :: r => o :: wrOf r
  | _ :: r => wrOf r

def fzOf : List (Nat × U) → List Nat
  | [] => []
  | (o, .frz) :: r => o :: fzOf r
  | _ :: r => fzOf r

def stepD (C : Cfg) (L : Low) (nt : Nat) (ops : Array Oper) (base i : Nat) (o : Oper) (s : St) : Option (St × Fp) :=
  match wantA ops s.tmps o with
  | some true => match opA C L (base + i) s o.op with
    | some (.val v ups) => match put nt { s with G := updL s.G ups } o.dst v with
      | some s' => some (s', ⟨i, readsOf s o.op, wrOf ups, fzOf ups⟩)
      | none => none
    | _ => none
  | some false => match put nt s o.dst (.imm (.tup [])) with
    | some s' => some (s', ⟨i, [], [], []⟩)
    | none => none
  | none => none

def runD (C : Cfg) (L : Low) (nt : Nat) (ops : Array Oper) (base : Nat) : List Nat → St → Option (St × List Fp)
  | [], s => some (s, [])
  | i :: r, s => match ops[i]? with
    | none => none
    | some o => match stepD C L nt ops base i o s with
      | some (s1, f) => match runD C L nt ops base r s1 with
        | some (s2, fs) => some (s2, f :: fs)
        | none => none
      | none => none

def clash (a b : Fp) : Bool :=
  a.wr.any (fun x => b.rd.contains x || b.wr.contains x || b.fz.contains x) || b.wr.any (fun x => a.rd.contains x || a.fz.contains x)

def ordered (ops : Array Oper) (i j : Nat) : Bool := ((Region.before ops).getD j 0).testBit i

/-- The operations' temporaries keep out of each other's way. -/
def apartI (ops : Array Oper) (i j : Nat) : Bool :=
  match ops[i]?, ops[j]? with
  | some x, some y => x.apart ops y
  | _, _ => false

def clearOf (ops : Array Oper) (a : Fp) : List Fp → Bool
  | [] => true
  | b :: r => (ordered ops a.i b.i || (!clash a b && apartI ops a.i b.i)) && clearOf ops a r

def drawOK (ops : Array Oper) : List Fp → Bool
  | [] => true
  | a :: r => clearOf ops a r && drawOK ops r

/-- Every edge that binds leads back. -/
def edgesOK (ops : Array Oper) : Bool := ops.toList.zipIdx.all fun p => p.1.after.all fun e => !Region.binds .any e || decide (e.on < p.2)

/-- An operation that, where it panics, leaves the state as it was. -/
def panOK (C : Cfg) (s : St) : Op → Bool
  | .panic _ => true
  | .call { callee := .value f, .. } => match fnOf (ev s.tmps f) with
    | some (.func k, _) => !C.byref k
    | _ => false
  | _ => false

def stepX (C : Cfg) (L : Low) (nt : Nat) (ops : Array Oper) (base i : Nat) (o : Oper) (s : St) : Option (St × Fp × Option IV) :=
  match wantA ops s.tmps o with
  | some true => match opA C L (base + i) s o.op with
    | some (.val v ups) => match put nt { s with G := updL s.G ups } o.dst v with
      | some s' => some (s', ⟨i, readsOf s o.op, wrOf ups, fzOf ups⟩, none)
      | none => none
    | some (.pan v _) => if panOK C s o.op then some (s, ⟨i, readsOf s o.op, [], []⟩, some v) else none
    | _ => none
  | some false => match put nt s o.dst (.imm (.tup [])) with
    | some s' => some (s', ⟨i, [], [], []⟩, none)
    | none => none
  | none => none

def runX (C : Cfg) (L : Low) (nt : Nat) (ops : Array Oper) (base : Nat) : List Nat → List Nat → St → Option (List (Fp × Option IV))
  | [], _, _ => some []
  | i :: r, ps, s =>
    if ps.any (fun p => ordered ops p i) = true then runX C L nt ops base r ps s
    else match ops[i]? with
      | none => none
      | some o => match stepX C L nt ops base i o s with
        | some (s1, f, none) => match runX C L nt ops base r ps s1 with
          | some es => some ((f, none) :: es)
          | none => none
        | some (s1, f, some v) => match runX C L nt ops base r (i :: ps) s1 with
          | some es => some ((f, some v) :: es)
          | none => none
        | none => none

def IV.alike : IV → IV → Bool
  | .iface t (.agg []), .iface u (.agg []) => decide (t = u)
  | _, _ => false

def fzAll (es : List (Fp × Option IV)) : List Nat := es.flatMap (·.1.fz)

def poison (ops : Array Oper) (es : List (Fp × Option IV)) (s : St) : St :=
  { s with tmps := fun t => if ops.toList.any (fun o => o.dst == some t) = true then .undef else s.tmps t, G := fun q => if (fzAll es).contains q = true then (s.G q).freeze else s.G q, nx := s.nx + ops.size }

/-- A region that draws its order, where an operation fails. -/
def failA (C : Cfg) (L : Low) (nt : Nat) (ops : Array Oper) (s : St) : Option Out :=
  match runX C L nt ops s.nx (List.range ops.size) [] { s with nx := s.nx + ops.size } with
  | some es => match es.filterMap (·.2) with
    | v :: r =>
      if (r.all (IV.alike v) && drawOK ops (es.map (·.1)) && edgesOK ops && es.all fun e => e.1.wr.all fun q => decide (s.nx ≤ q)) = true then some (.pan v (poison ops es s)) else none
    | [] => none
  | none => none

/-! ### code -/
def iter (f : St → Option Out) : Nat → St → Option Out
  | 0, _ => none
  | n + 1, s => match f s with
    | some (.norm s') => iter f n s'
    | x => x

def regionA (C : Cfg) (L : Low) (nt : Nat) (ops : Array Oper) (draw : Bool) (s : St) : Option Out :=
  if draw then
    match runD C L nt ops s.nx (List.range ops.size) { s with nx := s.nx + ops.size } with
    | some (s', fs) => if drawOK ops fs && edgesOK ops then some (.norm s') else none
    | none => failA C L nt ops s
  else runA C L nt ops s.nx (List.range ops.size) { s with nx := s.nx + ops.size }

def rangeA (C : Cfg) (L : Low) (fid nt : Nat) (f : AV) (params : List Nat) (assign body : Code) (s : St) : Option Out :=
  match fnOf f with
  | some (.func kf, cap) => match callA C L (s.nx + 1) { s with nx := s.nx + 2, G := upd s.G s.nx (.lp s.tmps nt params assign body fid 0 none) } kf (.yld s.nx :: cap) with
    | some (.wr _ s1) => match s1.G s.nx with
      | .lp _ _ _ _ _ _ st pending => if st = 1 then none else
        match pending with
        | none => some (.norm { s1 with G := upd s1.G s.nx .gone })
        | some (.exit id) => some (.exit id { s1 with G := upd s1.G s.nx .gone })
        | some .ret => some (.ret { s1 with G := upd s1.G s.nx .gone })
        | _ => none
      | _ => none
    | some (.pan v s1) => some (.pan v s1)
    | _ => none
  | _ => none

def code (C : Cfg) (L : Low) (lf fid nt : Nat) : Code → St → Option Out
  | .skip, s => some (.norm s)
  | .region _ ops draw, s => regionA C L nt ops draw s
  | .seq a b, s => match code C L lf fid nt a s with
    | some (.norm s') => code C L lf fid nt b s'
    | x => x
  | .cond c t e, s => match ev s.tmps c with
    | .imm (.bool b) => bif b then code C L lf fid nt t s else code C L lf fid nt e s
    | _ => none
  | .block id b, s => match code C L lf fid nt b s with
    | some (.exit id' s') => if id' = id then some (.norm s') else some (.exit id' s')
    | x => x
  | .loop b, s => iter (code C L lf fid nt b) lf s
  | .exit id, s => some (.exit id s)
  | .ret, s => some (.ret s)
  | .rangeFunc f params assign body, s => match s.pk with
    | .rnd => none
    | _ => rangeA C L fid nt (ev s.tmps f) params.toList assign body s
  | _, _ => none

/-! ### calls -/
def initT (args : List AV) : Nat → AV := fun t => (args[t]?).getD (.imm (.tup []))

def resultA (C : Cfg) (s : St) : ResultVar → Option AV
  | .tmp t => some (s.tmps t)
  | .cell a t => match aLoad C s.G t (s.tmps a) with
    | some (.val v _) => some v
    | _ => none

def resultsL (C : Cfg) (s : St) : List ResultVar → Option (List AV)
  | [] => some []
  | r :: rs => match resultA C s r, resultsL C s rs with
    | some v, some l => some (v :: l)
    | _, _ => none

def resultsA (C : Cfg) (s : St) (rs : List ResultVar) : Option AV :=
  match resultsL C s rs with
  | some [v] => some v
  | some l => some (mkTup l)
  | none => none

def leaveA (C : Cfg) (L : Low) (rs : List ResultVar) : List (AV × List AV) → Option IV → St → Option (CR × Pk)
  | [], none, s => match resultsA C s rs with
    | some v => some (.ret v s.G s.nx, s.pk)
    | none => none
  | [], some v, s => some (.pan v s.G s.nx, s.pk)
  | (g, as) :: ds, m, s => match fnOf g with
    | some (.func k, cap) => match L.call k (as ++ cap) (.dfr m false) s.G s.nx with
      | some (.ret _ G nx, .dfr _ recd) => leaveA C L rs ds (if recd then none else m) { s with G, nx }
      | _ => none
    | _ => none

def callF (C : Cfg) (L : Low) (lf : Nat) (f : FuncId) (args : List AV) (pk : Pk) (G : Nat → Obj) (nx : Nat) : Option (CR × Pk) :=
  match C.fn f with
  | some fn => match fn.body with
    | some b => if args.length ≤ fn.ntmps then
        match code C L lf f fn.ntmps b ⟨initT args, G, nx, [], pk⟩ with
        | some (.norm s) | some (.ret s) => leaveA C L fn.results.toList s.defers none s
        | some (.pan v s) => leaveA C L fn.results.toList s.defers (some v) s
        | _ => none
      else none
    | none => none
  | none => none

def bindT (tmps : Nat → AV) : List (Nat × AV) → Nat → AV
  | [] => tmps
  | (t, v) :: r => bindT (upd tmps t v) r

def roundF (C : Cfg) (L : Low) (lf : Nat) (q : Nat) (args : List AV) (G : Nat → Obj) (nx : Nat) : Option (CR × Pk) :=
  match G q with
  | .lp tmps nt params assign body fid 0 _ =>
    if params.length = args.length ∧ (params.all fun t => decide (t < nt)) = true then
      match code C L lf fid nt assign ⟨bindT tmps (params.zip args), G, nx, [], .rnd⟩ with
      | some (.norm s) => match s.G q with
        | .lp t2 n2 p2 a2 b2 f2 0 e2 => match code C L lf fid nt body { s with G := upd s.G q (.lp t2 n2 p2 a2 b2 f2 1 e2) } with
          | some (.norm s1) => match s1.G q with
            | .lp t3 n3 p3 a3 b3 f3 1 _ => some (.ret (.imm (.bool true)) (upd s1.G q (.lp t3 n3 p3 a3 b3 f3 0 none)) s1.nx, .no)
            | _ => none
          | some (.exit id s1) => match s1.G q with
            | .lp t3 n3 p3 a3 b3 f3 1 _ => some (.ret (.imm (.bool false)) (upd s1.G q (.lp t3 n3 p3 a3 b3 f3 2 (some (.exit id)))) s1.nx, .no)
            | _ => none
          | some (.ret s1) => match s1.G q with
            | .lp t3 n3 p3 a3 b3 f3 1 _ => some (.ret (.imm (.bool false)) (upd s1.G q (.lp t3 n3 p3 a3 b3 f3 2 (some .ret))) s1.nx, .no)
            | _ => none
          | some (.pan v s1) => if s1.defers.isEmpty && (C.fn fid).isSome then some (.pan v s1.G s1.nx, .no) else none
          | none => none
        | _ => none
      | _ => none
    else none
  | _ => none

def low (C : Cfg) : Nat → Low
  | 0 => ⟨fun _ _ _ _ _ => none, fun _ _ _ _ => none⟩
  | n + 1 => ⟨callF C (low C n) n, roundF C (low C n) n⟩

/-- A call with data alone. -/
def run (C : Cfg) (n : Nat) (f : FuncId) (args : List IV) : Option CR :=
  ((low C n).call f (args.map .imm) .no (fun _ => .gone) 0).map (·.1)

end Go.Abs
