/- The abstract interpreter: a logic of what code comes to, by what is known of its temporaries. -/
import Derived.Test.YtbdoijpclmhbaaaGreatLag1
import Derived.Test.YtbdoijpclmhbaaaGreatProg
import Derived.KernelRfl
import Derived.Laws.Strings
import Derived.Below
import Derived.Laws.AppendOwn
import Derived.Laws.Cells
import Derived.Laws.Rows
import Derived.Laws.Alloc2
import Derived.Laws.Entries
import Derived.Laws.Append
namespace Go.Abs
abbrev Env := List (Nat × AV)
def look : Env → Nat → Option AV
  | [], _ => none
  | (j, v) :: r, i => match Nat.beq i j with
    | true => some v
    | false => look r i
def lookC : Value → Option AV
  | .bool b => some (.imm (.bool b))
  | .int k n => some (.imm (.int k n))
  | .string s => some (.imm (.str s))
  | .slice none 0 0 => some .nils
  | .pointer none => some (.imm .nilp)
  | .map none => some (.imm .nilmap)
  | .nilFunc => some (.imm .nilfn)
  | .nilIface => some (.imm .niliface)
  | v => some (cv v)
def lookO (l : Env) : Operand → Option AV
  | .tmp t => look l t
  | .const v => lookC v
  | .func f => some (.imm (.fn (.func f) []))
  | .global _ => none
def looks (l : Env) : List Operand → Option (List AV)
  | [] => some []
  | x :: r => match lookO l x with
    | some v => match looks l r with
      | some vs => some (v :: vs)
      | none => none
    | none => none
def Agree (t : Nat → AV) (l : Env) : Prop := ∀ i v, look l i = some v → t i = v
theorem lookC_cv {c : Value} {v : AV} (h : lookC c = some v) : cv c = v := by
  unfold lookC at h
  split at h <;> first | (cases h; rfl) | (simp only [Option.some.injEq] at h; exact h)
theorem Agree.ev {t : Nat → AV} {l : Env} (h : Agree t l) {x : Operand} {v : AV} (hx : lookO l x = some v) : Go.Abs.ev t x = v := by
  cases x with
  | tmp i => exact h i v hx
  | const c => exact lookC_cv hx
  | func f => simp only [lookO, Option.some.injEq] at hx; exact hx
  | global g => cases hx
theorem Agree.evs {t : Nat → AV} {l : Env} (h : Agree t l) : ∀ {xs : List Operand} {vs : List AV}, looks l xs = some vs → xs.map (Go.Abs.ev t) = vs
  | [], vs, hx => by cases hx; rfl
  | x :: r, vs, hx => by
    unfold looks at hx
    split at hx
    · rename_i v hv
      split at hx
      · rename_i ws hw
        cases hx
        simp only [List.map_cons, h.ev hv, h.evs hw]
      · cases hx
    · cases hx
theorem Agree.put {t : Nat → AV} {l : Env} (h : Agree t l) (d : Nat) (v : AV) : Agree (upd t d v) ((d, v) :: l) := by
  intro i w hw
  unfold look at hw
  unfold upd
  split at hw
  · rename_i hb
    have : i = d := Nat.eq_of_beq_eq_true hb
    cases hw
    rw [if_pos this]
  · rename_i hb
    have : i ≠ d := fun e => by subst e; rw [Nat.beq_refl] at hb; cases hb
    rw [if_neg this]
    exact h i w hw
def Sub (l' l : Env) : Prop := ∀ i v, look l' i = some v → look l i = some v
theorem Sub.nil (l : Env) : Sub [] l := fun _ _ h => by cases h
theorem Sub.cons {l' l : Env} {d : Nat} {v : AV} (h : look l d = some v) (hr : Sub l' l) : Sub ((d, v) :: l') l := by
  intro i w hw
  unfold look at hw
  split at hw
  · rename_i hb
    have : i = d := Nat.eq_of_beq_eq_true hb
    cases hw
    rw [this]; exact h
  · exact hr i w hw
theorem Agree.sub {t : Nat → AV} {l l' : Env} (h : Agree t l) (hs : Sub l' l) : Agree t l' := fun i v hv => h i v (hs i v hv)
/-! ### what code comes to -/
variable {C : Cfg}
def Wst (C : Cfg) (fid nt : Nat) (b : Code) (s : St) (Φ : Out → Prop) : Prop := ∃ n o, code C (low C n) n fid nt b s = some o ∧ Φ o
structure W (C : Cfg) (fid nt : Nat) (b : Code) (l : Env) (G : Nat → Obj) (nx : Nat) (df : List (AV × List AV)) (pk : Pk) (Φ : Out → Prop) : Prop where
  st : ∀ t, Agree t l → Wst C fid nt b ⟨t, G, nx, df, pk⟩ Φ
def runL (C : Cfg) (L : Low) (nt : Nat) (ops : Array Oper) (base : Nat) : Nat → List Oper → St → Option Out
  | _, [], s => some (.norm s)
  | i, o :: r, s => match stepA C L nt ops (base + i) o s with
    | some (.norm s') => runL C L nt ops base (i + 1) r s'
    | x => x
theorem runA_eq (C : Cfg) (L : Low) (nt : Nat) (ops : Array Oper) (base : Nat) : ∀ (l : List Oper) (i : Nat) (s : St), ops.toList.drop i = l → runA C L nt ops base (List.range' i l.length) s = runL C L nt ops base i l s
  | [], _, _, _ => rfl
  | o :: r, i, s, h => by
    have h0 : ops[i]? = some o := by
      have := congrArg (fun l => l[0]?) h
      simpa using this
    have h1 : ops.toList.drop (i + 1) = r := by
      have := congrArg List.tail h
      simpa using this
    simp only [List.length_cons, List.range'_succ, runA, h0, runL]
    cases stepA C L nt ops (base + i) o s with
    | none => rfl
    | some x => cases x with
      | norm s' => exact runA_eq C L nt ops base r (i + 1) s' h1
      | _ => rfl
theorem runL_mono {L L' : Low} (h : L.le L') {nt : Nat} {ops : Array Oper} {base : Nat} : ∀ (l : List Oper) (i : Nat) (s : St) {x : Out}, runL C L nt ops base i l s = some x → runL C L' nt ops base i l s = some x
  | [], _, _, _, he => he
  | o :: r, i, s, x, he => by
    unfold runL at he ⊢
    cases hs : stepA C L nt ops (base + i) o s with
    | none => rw [hs] at he; cases he
    | some y =>
      rw [stepA_mono h hs]; rw [hs] at he
      cases y with
      | norm s' => exact runL_mono h r (i + 1) s' he
      | _ => exact he
def Rst (C : Cfg) (nt : Nat) (ol : List Oper) (base i : Nat) (r : List Oper) (s : St) (Φ : Out → Prop) : Prop := ∃ n o, runL C (low C n) nt ⟨ol⟩ base i r s = some o ∧ Φ o
structure R (C : Cfg) (nt : Nat) (ol : List Oper) (base i : Nat) (r : List Oper) (l : Env) (G : Nat → Obj) (nx : Nat) (df : List (AV × List AV)) (pk : Pk) (Φ : Out → Prop) : Prop where
  st : ∀ t, Agree t l → Rst C nt ol base i r ⟨t, G, nx, df, pk⟩ Φ
def aft (C : Cfg) (fid nt : Nat) (b : Code) (Φ : Out → Prop) : Out → Prop
  | .norm s => Wst C fid nt b s Φ
  | o => Φ o
def blk' (id : Nat) (Φ : Out → Prop) : Out → Prop
  | .exit id' s => if id' = id then Φ (.norm s) else Φ (.exit id' s)
  | o => Φ o
def lop {X : Type} (le : X → Env) (Ge : X → Nat → (Nat → Obj) → Prop) (mu : X → Nat) (df : List (AV × List AV)) (pk : Pk) (x : X) (Φ : Out → Prop) : Out → Prop
  | .norm s => ∃ x', mu x' < mu x ∧ Agree s.tmps (le x') ∧ Ge x' s.nx s.G ∧ s.defers = df ∧ s.pk = pk
  | o => Φ o
variable {fid nt : Nat} {l : Env} {G : Nat → Obj} {nx : Nat} {df : List (AV × List AV)} {pk : Pk} {Φ Φ' : Out → Prop} {a b : Code}
theorem W.mono (h : W C fid nt b l G nx df pk Φ) (hi : ∀ o, Φ o → Φ' o) : W C fid nt b l G nx df pk Φ' := .mk fun t ht => by
  obtain ⟨n, o, h1, h2⟩ := h.st t ht
  exact ⟨n, o, h1, hi o h2⟩
theorem W.seq (h : W C fid nt a l G nx df pk (aft C fid nt b Φ)) : W C fid nt (.seq a b) l G nx df pk Φ := by
  refine .mk fun t ht => ?_
  obtain ⟨n, o, h1, h2⟩ := h.st t ht
  cases o with
  | norm s =>
    obtain ⟨m, o', h3, h4⟩ := h2
    refine ⟨max n m, o', ?_, h4⟩
    unfold code
    rw [code_mono (low_mono (Nat.le_max_left n m)) (Nat.le_max_left n m) _ _ _ h1]
    exact code_mono (low_mono (Nat.le_max_right n m)) (Nat.le_max_right n m) _ _ _ h3
  | _ => exact ⟨n, _, by unfold code; rw [h1], h2⟩
theorem W.region {k : Nat} {ol : List Oper} (h : R C nt ol nx 0 ol l G (nx + ol.length) df pk Φ) : W C fid nt (.region k ⟨ol⟩ false) l G nx df pk Φ := by
  refine .mk fun t ht => ?_
  obtain ⟨n, o, h1, h2⟩ := h.st t ht
  refine ⟨n, o, ?_, h2⟩
  unfold code regionA
  rw [if_neg (by simp)]
  rw [← runA_eq C (low C n) nt ⟨ol⟩ nx ol 0 _ rfl] at h1
  rw [← h1, List.range_eq_range']
  rfl
theorem R.done {ol : List Oper} {base i : Nat} (h : W C fid nt b l G nx df pk Φ) : R C nt ol base i [] l G nx df pk (aft C fid nt b Φ) := .mk fun t ht => ⟨0, _, rfl, h.st t ht⟩
theorem R.skip {ol : List Oper} {base i : Nat} (h : W C 0 nt .skip l G nx df pk Φ) : R C nt ol base i [] l G nx df pk Φ := .mk fun t ht => by
  obtain ⟨n, o, h1, h2⟩ := h.st t ht
  cases h1
  exact ⟨n, _, rfl, h2⟩
theorem W.cond {c : Operand} {v : Bool} (hc : lookO l c = some (.imm (.bool v))) (h1 : v = true → W C fid nt a l G nx df pk Φ) (h0 : v = false → W C fid nt b l G nx df pk Φ) : W C fid nt (.cond c a b) l G nx df pk Φ := by
  refine .mk fun t ht => ?_
  have he := ht.ev hc
  cases v with
  | true =>
    obtain ⟨n, o, h1, h2⟩ := (h1 rfl).st t ht
    exact ⟨n, o, by unfold code; simp only [he]; exact h1, h2⟩
  | false =>
    obtain ⟨n, o, h1, h2⟩ := (h0 rfl).st t ht
    exact ⟨n, o, by unfold code; simp only [he]; exact h1, h2⟩
theorem W.condT {c : Operand} {v : Bool} (hc : lookO l c = some (.imm (.bool v))) (hv : v = true) (h1 : W C fid nt a l G nx df pk Φ) : W C fid nt (.cond c a b) l G nx df pk Φ := W.cond hc (fun _ => h1) (fun h => by rw [h] at hv; cases hv)
theorem W.condF {c : Operand} {v : Bool} (hc : lookO l c = some (.imm (.bool v))) (hv : v = false) (h1 : W C fid nt b l G nx df pk Φ) : W C fid nt (.cond c a b) l G nx df pk Φ := W.cond hc (fun h => by rw [h] at hv; cases hv) (fun _ => h1)
theorem W.block {id : Nat} (h : W C fid nt b l G nx df pk (blk' id Φ)) : W C fid nt (.block id b) l G nx df pk Φ := by
  refine .mk fun t ht => ?_
  obtain ⟨n, o, h1, h2⟩ := h.st t ht
  cases o with
  | exit id' s =>
    by_cases hi : id' = id
    · exact ⟨n, .norm s, by unfold code; rw [h1]; simp [hi], by simpa [blk', hi] using h2⟩
    · exact ⟨n, .exit id' s, by unfold code; rw [h1]; simp [hi], by simpa [blk', hi] using h2⟩
  | _ => exact ⟨n, _, by unfold code; rw [h1], h2⟩
theorem W.scope (h : W C fid nt b l G nx df pk Φ) : W C fid nt (.scope b) l G nx df pk Φ := .mk fun t ht => by
  obtain ⟨n, o, h1, h2⟩ := h.st t ht
  exact ⟨n, o, by unfold code; exact h1, h2⟩
theorem W.label {j : Nat} (h : W C fid nt .skip l G nx df pk Φ) : W C fid nt (.label j) l G nx df pk Φ := .mk fun t ht => by
  obtain ⟨n, o, h1, h2⟩ := h.st t ht
  exact ⟨n, o, h1, h2⟩
theorem W.loop {X : Type} (le : X → Env) (Ge : X → Nat → (Nat → Obj) → Prop) (mu : X → Nat) (x0 : X) (hl : Sub (le x0) l) (hG : Ge x0 nx G)
    (h : ∀ x nx G, Ge x nx G → W C fid nt b (le x) G nx df pk (lop le Ge mu df pk x Φ)) : W C fid nt (.loop b) l G nx df pk Φ := by
  have key : ∀ k x nx G t, mu x ≤ k → Ge x nx G → Agree t (le x) → ∃ n o, iter (code C (low C n) n fid nt b) n ⟨t, G, nx, df, pk⟩ = some o ∧ Φ o := by
    intro k
    induction k with
    | zero =>
      intro x nx G t hk hG ht
      obtain ⟨n, o, h1, h2⟩ := (h x nx G hG).st t ht
      cases o with
      | norm s => obtain ⟨x', hlt, _⟩ := h2; omega
      | _ => exact ⟨n + 1, _, by unfold iter; rw [code_mono (low_succ n) (Nat.le_succ n) _ _ _ h1], h2⟩
    | succ k ih =>
      intro x nx G t hk hG ht
      obtain ⟨n, o, h1, h2⟩ := (h x nx G hG).st t ht
      cases o with
      | norm s =>
        obtain ⟨x', hlt, ha, hg, hd, hp⟩ := h2
        obtain ⟨m, o, h3, h4⟩ := ih x' s.nx s.G s.tmps (by omega) hg ha
        refine ⟨max n m + 1, o, ?_, h4⟩
        unfold iter
        have e : n ≤ max n m + 1 := Nat.le_succ_of_le (Nat.le_max_left n m)
        have e' : m ≤ max n m := Nat.le_max_right n m
        rw [code_mono (low_mono e) e _ _ _ h1]
        have : s = ⟨s.tmps, s.G, s.nx, df, pk⟩ := by cases s; simp_all
        simp only
        rw [this]
        exact iter_mono (fun s x hx => code_mono (low_mono (Nat.le_succ_of_le e')) (Nat.le_succ_of_le e') _ _ _ hx) _ _ e' _ _ h3
      | _ => exact ⟨n + 1, _, by unfold iter; rw [code_mono (low_succ n) (Nat.le_succ n) _ _ _ h1], h2⟩
  refine .mk fun t ht => ?_
  obtain ⟨n, o, h1, h2⟩ := key _ x0 nx G t (Nat.le_refl _) hG (ht.sub hl)
  exact ⟨n, o, by unfold code; exact h1, h2⟩
theorem W.ret (h : ∀ t, Agree t l → Φ (.ret ⟨t, G, nx, df, pk⟩)) : W C fid nt .ret l G nx df pk Φ := .mk fun t ht => ⟨0, _, rfl, h t ht⟩
theorem W.exit {id : Nat} (h : ∀ t, Agree t l → Φ (.exit id ⟨t, G, nx, df, pk⟩)) : W C fid nt (.exit id) l G nx df pk Φ := .mk fun t ht => ⟨0, _, rfl, h t ht⟩
theorem W.skip (h : ∀ t, Agree t l → Φ (.norm ⟨t, G, nx, df, pk⟩)) : W C fid nt .skip l G nx df pk Φ := .mk fun t ht => ⟨0, _, rfl, h t ht⟩
theorem W.retI (h : W C fid nt .ret l G nx df pk Φ) : ∀ t, Agree t l → Φ (.ret ⟨t, G, nx, df, pk⟩) := fun t ht => by
  obtain ⟨n, o, h1, h2⟩ := h.st t ht
  cases h1; exact h2
theorem W.exitI {id : Nat} (h : W C fid nt (.exit id) l G nx df pk Φ) : ∀ t, Agree t l → Φ (.exit id ⟨t, G, nx, df, pk⟩) := fun t ht => by
  obtain ⟨n, o, h1, h2⟩ := h.st t ht
  cases h1; exact h2
theorem W.skipI (h : W C fid nt .skip l G nx df pk Φ) : ∀ t, Agree t l → Φ (.norm ⟨t, G, nx, df, pk⟩) := fun t ht => by
  obtain ⟨n, o, h1, h2⟩ := h.st t ht
  cases h1; exact h2
/-! ends -/
theorem W.retAft {b : Code} (h : W C fid nt .ret l G nx df pk Φ) : W C fid nt .ret l G nx df pk (aft C fid nt b Φ) := .ret h.retI
theorem W.retBlk {id : Nat} (h : W C fid nt .ret l G nx df pk Φ) : W C fid nt .ret l G nx df pk (blk' id Φ) := .ret h.retI
theorem W.retLop {X : Type} {le : X → Env} {Ge : X → Nat → (Nat → Obj) → Prop} {mu : X → Nat} {df' : List (AV × List AV)} {pk' : Pk} {x : X} (h : W C fid nt .ret l G nx df pk Φ) : W C fid nt .ret l G nx df pk (lop le Ge mu df' pk' x Φ) := .ret h.retI
theorem W.exitAft {id : Nat} {b : Code} (h : W C fid nt (.exit id) l G nx df pk Φ) : W C fid nt (.exit id) l G nx df pk (aft C fid nt b Φ) := .exit h.exitI
theorem W.exitLop {id : Nat} {X : Type} {le : X → Env} {Ge : X → Nat → (Nat → Obj) → Prop} {mu : X → Nat} {df' : List (AV × List AV)} {pk' : Pk} {x : X} (h : W C fid nt (.exit id) l G nx df pk Φ) : W C fid nt (.exit id) l G nx df pk (lop le Ge mu df' pk' x Φ) := .exit h.exitI
theorem W.exitBlk {id : Nat} (h : W C fid nt .skip l G nx df pk Φ) : W C fid nt (.exit id) l G nx df pk (blk' id Φ) := .exit fun t ht => by
  show (if id = id then _ else _)
  rw [if_pos rfl]; exact h.skipI t ht
theorem W.exitBlkNe {id id' : Nat} (hn : Nat.beq id id' = false) (h : W C fid nt (.exit id) l G nx df pk Φ) : W C fid nt (.exit id) l G nx df pk (blk' id' Φ) := .exit fun t ht => by
  show (if id = id' then _ else _)
  rw [if_neg (fun e => by subst e; rw [Nat.beq_refl] at hn; cases hn)]; exact h.exitI t ht
theorem W.skipAft {b : Code} {fid' : Nat} (h : W C fid' nt b l G nx df pk Φ) : W C fid nt .skip l G nx df pk (aft C fid' nt b Φ) := .skip h.st
theorem W.skipBlk {id : Nat} (h : W C fid nt .skip l G nx df pk Φ) : W C fid nt .skip l G nx df pk (blk' id Φ) := .skip h.skipI
theorem W.skipLop {X : Type} {le : X → Env} {Ge : X → Nat → (Nat → Obj) → Prop} {mu : X → Nat} {x : X} (x' : X) (hm : mu x' < mu x) (hl : Sub (le x') l) (hG : Ge x' nx G) : W C fid nt .skip l G nx df pk (lop le Ge mu df pk x Φ) :=
  .skip fun _ ht => ⟨x', hm, ht.sub hl, hG, rfl, rfl⟩
/-! ### operations -/
variable {ol r : List Oper} {base i d : Nat} {ty : TypeId} {pos : String} {af : Array Edge} {v : AV} {ups : List (Nat × U)}
structure OpV (C : Cfg) (id : Nat) (l : Env) (G : Nat → Obj) (nx : Nat) (df : List (AV × List AV)) (pk : Pk) (op : Op) (v : AV) (ups : List (Nat × U)) : Prop where
  st : ∀ t, Agree t l → ∃ n, opA C (low C n) id ⟨t, G, nx, df, pk⟩ op = some (.val v ups)
theorem R.opU {op : Op} (h : OpV C (base + i) l G nx df pk op v ups) (hd : Nat.ble (d + 1) nt = true)
    (next : R C nt ol base (i + 1) r ((d, v) :: l) (updL G ups) nx df pk Φ) : R C nt ol base i (⟨some d, op, ty, pos, af, none⟩ :: r) l G nx df pk Φ := by
  refine .mk fun t ht => ?_
  obtain ⟨n, hn⟩ := h.st t ht
  obtain ⟨m, o, h1, h2⟩ := next.st (upd t d v) (ht.put d v)
  refine ⟨max n m, o, ?_, h2⟩
  have hlt : d < nt := Nat.le_of_ble_eq_true hd
  unfold runL stepA
  simp only [wantA, opA_mono (low_mono (Nat.le_max_left n m)) hn, Go.Abs.put, if_pos hlt]
  exact runL_mono (low_mono (Nat.le_max_right n m)) _ _ _ h1
theorem R.opN {op : Op} (h : OpV C (base + i) l G nx df pk op v ups)
    (next : R C nt ol base (i + 1) r l (updL G ups) nx df pk Φ) : R C nt ol base i (⟨none, op, ty, pos, af, none⟩ :: r) l G nx df pk Φ := by
  refine .mk fun t ht => ?_
  obtain ⟨n, hn⟩ := h.st t ht
  obtain ⟨m, o, h1, h2⟩ := next.st t ht
  refine ⟨max n m, o, ?_, h2⟩
  unfold runL stepA
  simp only [wantA, opA_mono (low_mono (Nat.le_max_left n m)) hn, Go.Abs.put]
  exact runL_mono (low_mono (Nat.le_max_right n m)) _ _ _ h1
theorem R.op0 {op : Op} (h : OpV C (base + i) l G nx df pk op v []) (hd : Nat.ble (d + 1) nt = true)
    (next : R C nt ol base (i + 1) r ((d, v) :: l) G nx df pk Φ) : R C nt ol base i (⟨some d, op, ty, pos, af, none⟩ :: r) l G nx df pk Φ := R.opU h hd next
theorem R.op1 {op : Op} {q : Nat} {x : Obj} (h : OpV C (base + i) l G nx df pk op v [(q, .set x)]) (hd : Nat.ble (d + 1) nt = true)
    (next : R C nt ol base (i + 1) r ((d, v) :: l) (upd G q x) nx df pk Φ) : R C nt ol base i (⟨some d, op, ty, pos, af, none⟩ :: r) l G nx df pk Φ := R.opU h hd next
theorem R.opN1 {op : Op} {q : Nat} {x : Obj} (h : OpV C (base + i) l G nx df pk op v [(q, .set x)])
    (next : R C nt ol base (i + 1) r l (upd G q x) nx df pk Φ) : R C nt ol base i (⟨none, op, ty, pos, af, none⟩ :: r) l G nx df pk Φ := R.opN h next
def gdst (ol : List Oper) (j : Nat) : Option Nat := (ol[j]?).bind (·.dst)
theorem wantA_eq {ol : List Oper} {t : Nat → AV} {o : Oper} {j d : Nat} {want : Bool} (hg : o.guard = some (j, want)) (hj : gdst ol j = some d) : wantA ⟨ol⟩ t o = match t d with
    | .imm (.bool b) => some (b == want)
    | .imm (.tup []) => some false
    | _ => none := by
  unfold gdst at hj
  unfold wantA
  rw [hg]
  simp only [List.getElem?_toArray, hj] <;> rfl
theorem want_t {t : Nat → AV} (ht : Agree t l) {o : Oper} {j e : Nat} {want x : Bool} (hg : o.guard = some (j, want)) (hj : gdst ol j = some e) (he : look l e = some (.imm (.bool x))) (hx : x = want) : wantA ⟨ol⟩ t o = some true := by
  subst hx
  rw [wantA_eq hg hj, ht e _ he]; simp
theorem want_f {t : Nat → AV} (ht : Agree t l) {o : Oper} {j e : Nat} {want x : Bool} (hg : o.guard = some (j, want)) (hj : gdst ol j = some e) (he : look l e = some (.imm (.bool x))) (hx : x = !want) : wantA ⟨ol⟩ t o = some false := by
  subst hx
  rw [wantA_eq hg hj, ht e _ he]; cases want <;> rfl
theorem want_n {t : Nat → AV} (ht : Agree t l) {o : Oper} {j e : Nat} {want : Bool} (hg : o.guard = some (j, want)) (hj : gdst ol j = some e) (he : look l e = some (.imm (.tup []))) : wantA ⟨ol⟩ t o = some false := by
  rw [wantA_eq hg hj, ht e _ he]
theorem R.guardT {o : Option Nat} {op : Op} {j e : Nat} {want x : Bool} (hj : gdst ol j = some e) (he : look l e = some (.imm (.bool x))) (hx : x = want) (h : R C nt ol base i (⟨o, op, ty, pos, af, none⟩ :: r) l G nx df pk Φ) :
    R C nt ol base i (⟨o, op, ty, pos, af, some (j, want)⟩ :: r) l G nx df pk Φ := by
  refine .mk fun t ht => ?_
  obtain ⟨n, out, h1, h2⟩ := h.st t ht
  refine ⟨n, out, ?_, h2⟩
  have hw : wantA ⟨ol⟩ t ⟨o, op, ty, pos, af, some (j, want)⟩ = some true := want_t ht rfl hj he hx
  rw [← h1]
  unfold runL stepA
  simp only [hw]
  rfl
theorem R.guardS {op : Op} {j : Nat} {want : Bool} (hw : ∀ t, Agree t l → wantA ⟨ol⟩ t ⟨some d, op, ty, pos, af, some (j, want)⟩ = some false) (hd : Nat.ble (d + 1) nt = true) (h : R C nt ol base (i + 1) r ((d, .imm (.tup [])) :: l) G nx df pk Φ) :
    R C nt ol base i (⟨some d, op, ty, pos, af, some (j, want)⟩ :: r) l G nx df pk Φ := by
  refine .mk fun t ht => ?_
  obtain ⟨n, out, h1, h2⟩ := h.st _ (ht.put d _)
  refine ⟨n, out, ?_, h2⟩
  have hlt : d < nt := Nat.le_of_ble_eq_true hd
  unfold runL stepA
  simp only [hw t ht, Go.Abs.put, if_pos hlt]
  exact h1
theorem R.guardF {op : Op} {j e : Nat} {want x : Bool} (hj : gdst ol j = some e) (he : look l e = some (.imm (.bool x))) (hx : x = !want) (hd : Nat.ble (d + 1) nt = true) (h : R C nt ol base (i + 1) r ((d, .imm (.tup [])) :: l) G nx df pk Φ) :
    R C nt ol base i (⟨some d, op, ty, pos, af, some (j, want)⟩ :: r) l G nx df pk Φ := R.guardS (fun _ ht => want_f ht rfl hj he hx) hd h
theorem R.guardN {op : Op} {j e : Nat} {want : Bool} (hj : gdst ol j = some e) (he : look l e = some (.imm (.tup []))) (hd : Nat.ble (d + 1) nt = true) (h : R C nt ol base (i + 1) r ((d, .imm (.tup [])) :: l) G nx df pk Φ) :
    R C nt ol base i (⟨some d, op, ty, pos, af, some (j, want)⟩ :: r) l G nx df pk Φ := R.guardS (fun _ ht => want_n ht rfl hj he) hd h
/-! ### regions that draw their order -/
def runE (C : Cfg) (L : Low) (nt : Nat) (ops : Array Oper) (base : Nat) : Nat → List Oper → List Fp → St → Option (St × List Fp)
  | _, [], fs, s => some (s, fs)
  | i, o :: r, fs, s => match stepP C L nt ops base i o s fs with
    | some (s1, fs1) => runE C L nt ops base (i + 1) r fs1 s1
    | none => none
theorem runP_eq (C : Cfg) (L : Low) (nt : Nat) (ops : Array Oper) (base : Nat) : ∀ (l : List Oper) (i : Nat) (fs : List Fp) (s : St), ops.toList.drop i = l → runP C L nt ops base (List.range' i l.length) fs s = runE C L nt ops base i l fs s
  | [], _, _, _, _ => rfl
  | o :: r, i, fs, s, h => by
    have h0 : ops[i]? = some o := by
      have := congrArg (fun l => l[0]?) h
      simpa using this
    have h1 : ops.toList.drop (i + 1) = r := by
      have := congrArg List.tail h
      simpa using this
    simp only [List.length_cons, List.range'_succ, runP, h0, runE]
    cases stepP C L nt ops base i o s fs with
    | none => rfl
    | some x => exact runP_eq C L nt ops base r (i + 1) x.2 x.1 h1
theorem runE_mono {L L' : Low} (h : L.le L') {nt : Nat} {ops : Array Oper} {base : Nat} : ∀ (l : List Oper) (i : Nat) (fs : List Fp) (s : St) {x : St × List Fp}, runE C L nt ops base i l fs s = some x → runE C L' nt ops base i l fs s = some x
  | [], _, _, _, _, he => he
  | o :: r, i, fs, s, x, he => by
    unfold runE at he ⊢
    cases hs : stepP C L nt ops base i o s fs with
    | none => rw [hs] at he; cases he
    | some y =>
      rw [stepP_mono h hs]; rw [hs] at he
      exact runE_mono h r (i + 1) _ _ he
structure D (C : Cfg) (nt : Nat) (ol : List Oper) (base i : Nat) (r : List Oper) (l : Env) (G : Nat → Obj) (nx : Nat) (df : List (AV × List AV)) (pk : Pk) (fs : List Fp) (Φ : Out → Prop) : Prop where
  st : ∀ t, Agree t l → ∃ n s' fs', runE C (low C n) nt ⟨ol⟩ base i r fs ⟨t, G, nx, df, pk⟩ = some (s', fs') ∧ (drawOK ⟨ol⟩ fs'.reverse && edgesOK ⟨ol⟩) = true ∧ Φ (.norm s')
theorem W.draw {k : Nat} {ol : List Oper} (h : D C nt ol nx 0 ol l G (nx + ol.length) df pk [] Φ) : W C fid nt (.region k ⟨ol⟩ true) l G nx df pk Φ := by
  refine .mk fun t ht => ?_
  obtain ⟨n, s', fs', h1, h2, h3⟩ := h.st t ht
  refine ⟨n, .norm s', ?_, h3⟩
  unfold code regionA
  rw [if_pos rfl]
  rw [← runP_eq C (low C n) nt ⟨ol⟩ nx ol 0 _ _ rfl, ← List.range_eq_range'] at h1
  have h1' : runP C (low C n) nt ⟨ol⟩ nx (List.range (Array.mk ol).size) [] { tmps := t, G := G, nx := nx + (Array.mk ol).size, defers := df, pk := pk } = some (s', fs') := h1
  simp only [h1']
  rw [if_pos h2]
theorem D.done {fs : List Fp} (hk : (drawOK ⟨ol⟩ fs.reverse && edgesOK ⟨ol⟩) = true) (h : W C fid nt b l G nx df pk Φ) : D C nt ol base i [] l G nx df pk fs (aft C fid nt b Φ) :=
  .mk fun t ht => ⟨0, _, fs, rfl, hk, h.st t ht⟩
theorem D.skip {fs : List Fp} (hk : (drawOK ⟨ol⟩ fs.reverse && edgesOK ⟨ol⟩) = true) (h : W C 0 nt .skip l G nx df pk Φ) : D C nt ol base i [] l G nx df pk fs Φ := .mk fun t ht => by
  obtain ⟨n, o, h1, h2⟩ := h.st t ht
  cases h1
  exact ⟨0, _, fs, rfl, hk, h2⟩
def rdE (l : Env) (G : Nat → Obj) (o : Op) : Option (List Nat) :=
  match pureOp o with
  | true => some []
  | false => match o with
    | .call { callee := .builtin _, args, .. } => match looks l args.toList with
      | some vs => some (vs.flatMap direct)
      | none => none
    | .call { callee := .value f, args, .. } => match lookO l f with
      | some fv => match fnOf fv with
        | some (_, cap) => match looks l args.toList with
          | some vs => some ((vs ++ cap).flatMap (touch G pkDepth))
          | none => none
        | none => none
      | none => none
    | .slice _ x _ _ _ => match lookO l x with
      | some v => some (touch G pkDepth v)
      | none => none
    | .store _ a _ => match lookO l a with
      | some v => some (direct v)
      | none => none
    | .mapUpdate _ m _ _ | .insert _ m _ _ => match lookO l m with
      | some v => some (direct v)
      | none => none
    | .load _ x => match lookO l x with
      | some v => some (direct v)
      | none => none
    | .indexAddr _ x y | .lookup _ x y _ => match lookO l x, lookO l y with
      | some v, some w => some (direct v ++ direct w)
      | _, _ => none
    | .convert _ _ x => match lookO l x with
      | some v => some (direct v)
      | none => none
    | _ => none
theorem flat_map (h : AV → List Nat) {t : Nat → AV} (ht : Agree t l) {xs : List Operand} {vs : List AV} (hx : looks l xs = some vs) : (xs.flatMap fun x => h (Go.Abs.ev t x)) = vs.flatMap h := by
  rw [← ht.evs hx, List.flatMap_map]
theorem rdE_ok {t : Nat → AV} (ht : Agree t l) {op : Op} {rd : List Nat} (h : rdE l G op = some rd) : readsOf ⟨t, G, nx, df, pk⟩ op = rd := by
  unfold rdE at h
  unfold readsOf
  split at h
  · rename_i hp
    rw [if_pos hp]; cases h; rfl
  · rename_i hp
    rw [if_neg (by simp [hp])]
    split at h
    · simp only
      split at h
      · rename_i hl; cases h; exact flat_map direct ht hl
      · cases h
    · simp only
      split at h
      · rename_i fv hf
        split at h
        · rename_i cap hfn
          split at h
          · rename_i vs hl
            cases h
            rw [ht.ev hf, hfn, ht.evs hl]
          · cases h
        · cases h
      · cases h
    · simp only
      split at h
      · rename_i hl; cases h; rw [ht.ev hl]
      · cases h
    · simp only
      split at h
      · rename_i hl; cases h; rw [ht.ev hl]
      · cases h
    · simp only
      split at h
      · rename_i hl; cases h; rw [ht.ev hl]
      · cases h
    · simp only
      split at h
      · rename_i hl; cases h; rw [ht.ev hl]
      · cases h
    · split at h
      · rename_i hl; cases h; simp [Op.operands, ht.ev hl]
      · cases h
    · split at h
      · rename_i hl hl'; cases h; simp [Op.operands, ht.ev hl, ht.ev hl']
      · cases h
    · split at h
      · rename_i hl hl'; cases h; simp [Op.operands, ht.ev hl, ht.ev hl']
      · cases h
    · split at h
      · rename_i hl; cases h; simp [Op.operands, ht.ev hl]
      · cases h
    · cases h
theorem D.opU {op : Op} {fs : List Fp} {rd : List Nat} (h : OpV C (base + i) l G nx df pk op v ups) (hr : rdE l G op = some rd) (hd : Nat.ble (d + 1) nt = true)
    (next : D C nt ol base (i + 1) r ((d, v) :: l) (updL G ups) nx df pk (⟨i, rd, wrOf ups, fzOf ups⟩ :: fs) Φ) : D C nt ol base i (⟨some d, op, ty, pos, af, none⟩ :: r) l G nx df pk fs Φ := by
  refine .mk fun t ht => ?_
  obtain ⟨n, hn⟩ := h.st t ht
  obtain ⟨m, s', fs', h1, h2, h3⟩ := next.st (upd t d v) (ht.put d v)
  refine ⟨max n m, s', fs', ?_, h2, h3⟩
  have hlt : d < nt := Nat.le_of_ble_eq_true hd
  unfold runE stepP stepD
  simp only [wantA, opA_mono (low_mono (Nat.le_max_left n m)) hn, Go.Abs.put, if_pos hlt, rdE_ok ht hr]
  exact runE_mono (low_mono (Nat.le_max_right n m)) _ _ _ _ h1
theorem D.opN {op : Op} {fs : List Fp} {rd : List Nat} (h : OpV C (base + i) l G nx df pk op v ups) (hr : rdE l G op = some rd)
    (next : D C nt ol base (i + 1) r l (updL G ups) nx df pk (⟨i, rd, wrOf ups, fzOf ups⟩ :: fs) Φ) : D C nt ol base i (⟨none, op, ty, pos, af, none⟩ :: r) l G nx df pk fs Φ := by
  refine .mk fun t ht => ?_
  obtain ⟨n, hn⟩ := h.st t ht
  obtain ⟨m, s', fs', h1, h2, h3⟩ := next.st t ht
  refine ⟨max n m, s', fs', ?_, h2, h3⟩
  unfold runE stepP stepD
  simp only [wantA, opA_mono (low_mono (Nat.le_max_left n m)) hn, Go.Abs.put, rdE_ok ht hr]
  exact runE_mono (low_mono (Nat.le_max_right n m)) _ _ _ _ h1
theorem D.op0 {op : Op} {fs : List Fp} {rd : List Nat} (h : OpV C (base + i) l G nx df pk op v []) (hr : rdE l G op = some rd) (hd : Nat.ble (d + 1) nt = true)
    (next : D C nt ol base (i + 1) r ((d, v) :: l) G nx df pk (⟨i, rd, [], []⟩ :: fs) Φ) : D C nt ol base i (⟨some d, op, ty, pos, af, none⟩ :: r) l G nx df pk fs Φ := D.opU h hr hd next
theorem D.op1 {op : Op} {q : Nat} {x : Obj} {fs : List Fp} {rd : List Nat} (h : OpV C (base + i) l G nx df pk op v [(q, .set x)]) (hr : rdE l G op = some rd) (hd : Nat.ble (d + 1) nt = true)
    (next : D C nt ol base (i + 1) r ((d, v) :: l) (upd G q x) nx df pk (⟨i, rd, [q], []⟩ :: fs) Φ) : D C nt ol base i (⟨some d, op, ty, pos, af, none⟩ :: r) l G nx df pk fs Φ := D.opU h hr hd next
theorem D.opN1 {op : Op} {q : Nat} {x : Obj} {fs : List Fp} {rd : List Nat} (h : OpV C (base + i) l G nx df pk op v [(q, .set x)]) (hr : rdE l G op = some rd)
    (next : D C nt ol base (i + 1) r l (upd G q x) nx df pk (⟨i, rd, [q], []⟩ :: fs) Φ) : D C nt ol base i (⟨none, op, ty, pos, af, none⟩ :: r) l G nx df pk fs Φ := D.opN h hr next
theorem D.guardT {o : Option Nat} {op : Op} {j e : Nat} {want x : Bool} {fs : List Fp} (hj : gdst ol j = some e) (he : look l e = some (.imm (.bool x))) (hx : x = want) (h : D C nt ol base i (⟨o, op, ty, pos, af, none⟩ :: r) l G nx df pk fs Φ) :
    D C nt ol base i (⟨o, op, ty, pos, af, some (j, want)⟩ :: r) l G nx df pk fs Φ := by
  refine .mk fun t ht => ?_
  obtain ⟨n, s', fs', h1, h2⟩ := h.st t ht
  refine ⟨n, s', fs', ?_, h2⟩
  have hw : wantA ⟨ol⟩ t ⟨o, op, ty, pos, af, some (j, want)⟩ = some true := want_t ht rfl hj he hx
  rw [← h1]
  unfold runE stepP stepD stepA
  simp only [hw]
  rfl
theorem D.guardS {op : Op} {j : Nat} {want : Bool} {fs : List Fp} (hw : ∀ t, Agree t l → wantA ⟨ol⟩ t ⟨some d, op, ty, pos, af, some (j, want)⟩ = some false) (hd : Nat.ble (d + 1) nt = true) (h : D C nt ol base (i + 1) r ((d, .imm (.tup [])) :: l) G nx df pk (⟨i, [], [], []⟩ :: fs) Φ) :
    D C nt ol base i (⟨some d, op, ty, pos, af, some (j, want)⟩ :: r) l G nx df pk fs Φ := by
  refine .mk fun t ht => ?_
  obtain ⟨n, s', fs', h1, h2, h3⟩ := h.st _ (ht.put d _)
  refine ⟨n, s', fs', ?_, h2, h3⟩
  have hlt : d < nt := Nat.le_of_ble_eq_true hd
  unfold runE stepP stepD
  simp only [hw t ht, Go.Abs.put, if_pos hlt]
  exact h1
theorem D.guardF {op : Op} {j e : Nat} {want x : Bool} {fs : List Fp} (hj : gdst ol j = some e) (he : look l e = some (.imm (.bool x))) (hx : x = !want) (hd : Nat.ble (d + 1) nt = true) (h : D C nt ol base (i + 1) r ((d, .imm (.tup [])) :: l) G nx df pk (⟨i, [], [], []⟩ :: fs) Φ) :
    D C nt ol base i (⟨some d, op, ty, pos, af, some (j, want)⟩ :: r) l G nx df pk fs Φ := D.guardS (fun _ ht => want_f ht rfl hj he hx) hd h
theorem D.guardN {op : Op} {j e : Nat} {want : Bool} {fs : List Fp} (hj : gdst ol j = some e) (he : look l e = some (.imm (.tup []))) (hd : Nat.ble (d + 1) nt = true) (h : D C nt ol base (i + 1) r ((d, .imm (.tup [])) :: l) G nx df pk (⟨i, [], [], []⟩ :: fs) Φ) :
    D C nt ol base i (⟨some d, op, ty, pos, af, some (j, want)⟩ :: r) l G nx df pk fs Φ := D.guardS (fun _ ht => want_n ht rfl hj he) hd h
theorem R.guardT1 {o : Option Nat} {op : Op} {j e : Nat} {x : Bool} (hj : gdst ol j = some e) (he : look l e = some (.imm (.bool x))) (hx : x = true) (h : R C nt ol base i (⟨o, op, ty, pos, af, none⟩ :: r) l G nx df pk Φ) :
    R C nt ol base i (⟨o, op, ty, pos, af, some (j, true)⟩ :: r) l G nx df pk Φ := R.guardT hj he hx h
theorem R.guardF1 {op : Op} {j e : Nat} {x : Bool} (hj : gdst ol j = some e) (he : look l e = some (.imm (.bool x))) (hx : x = false) (hd : Nat.ble (d + 1) nt = true) (h : R C nt ol base (i + 1) r ((d, .imm (.tup [])) :: l) G nx df pk Φ) :
    R C nt ol base i (⟨some d, op, ty, pos, af, some (j, true)⟩ :: r) l G nx df pk Φ := R.guardF hj he hx hd h
theorem R.guardC1 {op : Op} {j e : Nat} {x : Bool} (hj : gdst ol j = some e) (he : look l e = some (.imm (.bool x))) (hd : Nat.ble (d + 1) nt = true)
    (h1 : x = true → R C nt ol base i (⟨some d, op, ty, pos, af, none⟩ :: r) l G nx df pk Φ) (h0 : x = false → R C nt ol base (i + 1) r ((d, .imm (.tup [])) :: l) G nx df pk Φ) :
    R C nt ol base i (⟨some d, op, ty, pos, af, some (j, true)⟩ :: r) l G nx df pk Φ := by
  by_cases hx : x = true
  · exact R.guardT hj he hx (h1 hx)
  · have hx' : x = false := by simpa using hx
    exact R.guardF hj he hx' hd (h0 hx')
theorem R.guardT0 {o : Option Nat} {op : Op} {j e : Nat} {x : Bool} (hj : gdst ol j = some e) (he : look l e = some (.imm (.bool x))) (hx : x = false) (h : R C nt ol base i (⟨o, op, ty, pos, af, none⟩ :: r) l G nx df pk Φ) :
    R C nt ol base i (⟨o, op, ty, pos, af, some (j, false)⟩ :: r) l G nx df pk Φ := R.guardT hj he hx h
theorem R.guardF0 {op : Op} {j e : Nat} {x : Bool} (hj : gdst ol j = some e) (he : look l e = some (.imm (.bool x))) (hx : x = true) (hd : Nat.ble (d + 1) nt = true) (h : R C nt ol base (i + 1) r ((d, .imm (.tup [])) :: l) G nx df pk Φ) :
    R C nt ol base i (⟨some d, op, ty, pos, af, some (j, false)⟩ :: r) l G nx df pk Φ := R.guardF hj he hx hd h
theorem R.guardC0 {op : Op} {j e : Nat} {x : Bool} (hj : gdst ol j = some e) (he : look l e = some (.imm (.bool x))) (hd : Nat.ble (d + 1) nt = true)
    (h1 : x = false → R C nt ol base i (⟨some d, op, ty, pos, af, none⟩ :: r) l G nx df pk Φ) (h0 : x = true → R C nt ol base (i + 1) r ((d, .imm (.tup [])) :: l) G nx df pk Φ) :
    R C nt ol base i (⟨some d, op, ty, pos, af, some (j, false)⟩ :: r) l G nx df pk Φ := by
  by_cases hx : x = false
  · exact R.guardT hj he hx (h1 hx)
  · have hx' : x = true := by simpa using hx
    exact R.guardF hj he hx' hd (h0 hx')
theorem D.guardT1 {o : Option Nat} {op : Op} {j e : Nat} {x : Bool} {fs : List Fp} (hj : gdst ol j = some e) (he : look l e = some (.imm (.bool x))) (hx : x = true) (h : D C nt ol base i (⟨o, op, ty, pos, af, none⟩ :: r) l G nx df pk fs Φ) :
    D C nt ol base i (⟨o, op, ty, pos, af, some (j, true)⟩ :: r) l G nx df pk fs Φ := D.guardT hj he hx h
theorem D.guardF1 {op : Op} {j e : Nat} {x : Bool} {fs : List Fp} (hj : gdst ol j = some e) (he : look l e = some (.imm (.bool x))) (hx : x = false) (hd : Nat.ble (d + 1) nt = true) (h : D C nt ol base (i + 1) r ((d, .imm (.tup [])) :: l) G nx df pk (⟨i, [], [], []⟩ :: fs) Φ) :
    D C nt ol base i (⟨some d, op, ty, pos, af, some (j, true)⟩ :: r) l G nx df pk fs Φ := D.guardF hj he hx hd h
theorem D.guardT0 {o : Option Nat} {op : Op} {j e : Nat} {x : Bool} {fs : List Fp} (hj : gdst ol j = some e) (he : look l e = some (.imm (.bool x))) (hx : x = false) (h : D C nt ol base i (⟨o, op, ty, pos, af, none⟩ :: r) l G nx df pk fs Φ) :
    D C nt ol base i (⟨o, op, ty, pos, af, some (j, false)⟩ :: r) l G nx df pk fs Φ := D.guardT hj he hx h
theorem D.guardF0 {op : Op} {j e : Nat} {x : Bool} {fs : List Fp} (hj : gdst ol j = some e) (he : look l e = some (.imm (.bool x))) (hx : x = true) (hd : Nat.ble (d + 1) nt = true) (h : D C nt ol base (i + 1) r ((d, .imm (.tup [])) :: l) G nx df pk (⟨i, [], [], []⟩ :: fs) Φ) :
    D C nt ol base i (⟨some d, op, ty, pos, af, some (j, false)⟩ :: r) l G nx df pk fs Φ := D.guardF hj he hx hd h
/-! ### what each operation comes to -/
variable {id : Nat}
theorem O.of {op : Op} (h : ∀ t L, Agree t l → opA C L id ⟨t, G, nx, df, pk⟩ op = some (.val v ups)) : OpV C id l G nx df pk op v ups := ⟨fun t ht => ⟨0, h t _ ht⟩⟩
theorem O.move {x : Operand} (hx : lookO l x = some v) : OpV C id l G nx df pk (.move x) v [] := O.of fun t L ht => by simp only [opA, ht.ev hx]
theorem O.assign {x : Operand} (hx : lookO l x = some v) : OpV C id l G nx df pk (.assign x) v [] := O.of fun t L ht => by simp only [opA, ht.ev hx]
theorem O.pickT {c x y : Operand} {z : Bool} (hc : lookO l c = some (.imm (.bool z))) (hz : z = true) (hx : lookO l x = some v) : OpV C id l G nx df pk (.pick c x y) v [] :=
  O.of fun t L ht => by subst hz; simp only [opA, ht.ev hc, ht.ev hx, cond_true]
theorem O.pickF {c x y : Operand} {z : Bool} (hc : lookO l c = some (.imm (.bool z))) (hz : z = false) (hx : lookO l y = some v) : OpV C id l G nx df pk (.pick c x y) v [] :=
  O.of fun t L ht => by subst hz; simp only [opA, ht.ev hc, ht.ev hx, cond_false]
theorem O.int {op : BinOp} {t : TypeId} {x y : Operand} {t2 : TypeId} {k : IntKind} {m n : Int} {u : IV} (hx : lookO l x = some (.imm (.int k m))) (hy : lookO l y = some (.imm (.int k n))) (hv : intOp op k m n = some u) : OpV C id l G nx df pk (.binOp op t x y t2) (.imm u) [] :=
  O.of fun t L ht => by simp only [opA, ht.ev hx, ht.ev hy, binA, if_pos, hv, Option.map_some]
theorem O.cmp {op : BinOp} {t : TypeId} {x y : Operand} {t2 : TypeId} {k : IntKind} {m n : Int} {u : Bool} (hx : lookO l x = some (.imm (.int k m))) (hy : lookO l y = some (.imm (.int k n))) (hv : intOp op k m n = some (.bool u)) : OpV C id l G nx df pk (.binOp op t x y t2) (.imm (.bool u)) [] := O.int hx hy hv
theorem O.str {op : BinOp} {t : TypeId} {x y : Operand} {t2 : TypeId} {m n : ByteArray} {u : IV} (hx : lookO l x = some (.imm (.str m))) (hy : lookO l y = some (.imm (.str n))) (hv : strOp op m n = some u) : OpV C id l G nx df pk (.binOp op t x y t2) (.imm u) [] :=
  O.of fun t L ht => by simp only [opA, ht.ev hx, ht.ev hy, binA, hv, Option.map_some]
theorem wrap64 {x : Int} (h : -9223372036854775808 ≤ x ∧ x ≤ 9223372036854775807) : IntKind.i64.wrap x = x := by
  simp [IntKind.wrap, IntKind.bits, IntKind.signed]
  omega
theorem wrap8 {x : Int} (h : 0 ≤ x ∧ x ≤ 255) : IntKind.u8.wrap x = x := by
  simp [IntKind.wrap, IntKind.bits, IntKind.signed]
  omega
theorem add64 {m n : Int} (h : -9223372036854775808 ≤ m + n ∧ m + n ≤ 9223372036854775807) : intOp .add .i64 m n = some (.int .i64 (m + n)) := by simp only [intOp, wrap64 h]
theorem sub64 {m n : Int} (h : -9223372036854775808 ≤ m - n ∧ m - n ≤ 9223372036854775807) : intOp .sub .i64 m n = some (.int .i64 (m - n)) := by simp only [intOp, wrap64 h]
theorem add8 {m n : Int} (h : 0 ≤ m + n ∧ m + n ≤ 255) : intOp .add .u8 m n = some (.int .u8 (m + n)) := by simp only [intOp, wrap8 h]
theorem O.not {t : TypeId} {x : Operand} {z : Bool} (hx : lookO l x = some (.imm (.bool z))) : OpV C id l G nx df pk (.unOp .not t x) (.imm (.bool !z)) [] := O.of fun t L ht => by simp only [opA, ht.ev hx, unA]
class TyIs (C : Cfg) (t : TypeId) (k : outParam TyI) : Prop where
  is : C.ty t = some k
theorem O.boolEq {t : TypeId} {x y : Operand} {t2 : TypeId} {m n : Bool} {k : TyI} [hk : TyIs C t k] (hb : k.d = .bool) (hx : lookO l x = some (.imm (.bool m))) (hy : lookO l y = some (.imm (.bool n))) : OpV C id l G nx df pk (.binOp .eql t x y t2) (.imm (.bool (m == n))) [] :=
  O.of fun t L ht => by simp only [opA, ht.ev hx, ht.ev hy, binA, eqAV, hk.is, hb, eqOp, Option.map_some]
theorem O.len {x : Operand} {t : TypeId} {k : TyI} [hk : TyIs C t k] (hx : lookO l x = some v) {m : Nat} (hl : lenA G k.d v = some m) : OpV C id l G nx df pk (.call { callee := .builtin .len, args := #[x], argTypes := #[t] }) (.imm (.int .i64 m)) [] :=
  O.of fun t L ht => by simp only [opA, List.map_cons, List.map_nil, ht.ev hx, aBuiltin, hk.is, hl]
theorem O.lenL {x : Operand} {t : TypeId} {k : TyI} {e : TypeId} [hk : TyIs C t k] {xs : List IV} (hx : lookO l x = some (.imm (.lst xs))) (hl : k.d = .sl e) : OpV C id l G nx df pk (.call { callee := .builtin .len, args := #[x], argTypes := #[t] }) (.imm (.int .i64 xs.length)) [] :=
  O.len (m := xs.length) hx (by rw [hl]; simp [lenA, elems])
theorem O.lenS {x : Operand} {t : TypeId} {k : TyI} [hk : TyIs C t k] {s : ByteArray} (hx : lookO l x = some (.imm (.str s))) (hl : k.d = .str) : OpV C id l G nx df pk (.call { callee := .builtin .len, args := #[x], argTypes := #[t] }) (.imm (.int .i64 s.size)) [] :=
  O.len (m := s.size) hx (by rw [hl]; simp [lenA])
theorem O.lenR {x : Operand} {t : TypeId} {k : TyI} {e et : TypeId} {o n sz : Nat} {xs : List AV} {fr : Bool} [hk : TyIs C t k] (hx : lookO l x = some (.row o n)) (hl : k.d = .sl e) (hG : G o = .row et sz xs fr) (hn : xs.length = n) :
    OpV C id l G nx df pk (.call { callee := .builtin .len, args := #[x], argTypes := #[t] }) (.imm (.int .i64 n)) [] :=
  O.len (m := n) hx (by rw [hl]; simp [lenA, elems, hG, hn])
theorem O.index {x y : Operand} {t : TypeId} {k : TyI} {kk : IntKind} {w : ByteArray} {n : Int} [hk : TyIs C t k] (ht : k.d = .str) (hx : lookO l x = some (.imm (.str w))) (hy : lookO l y = some (.imm (.int kk n))) (hn : 0 ≤ n ∧ n < w.size) :
    OpV C id l G nx df pk (.index t x y) (.imm (.int .u8 (w.data.getD n.toNat 0).toNat)) [] :=
  O.of fun t L hA => by simp only [opA, hA.ev hx, hA.ev hy, aIndex, hk.is, ht, if_pos hn]
theorem O.addrL {x y : Operand} {t e : TypeId} {k ke : TyI} {xs : List IV} {kk : IntKind} {n : Int} {u : IV} [hk : TyIs C t k] (ht : k.d = .sl e) [he : TyIs C e ke] (hx : lookO l x = some (.imm (.lst xs))) (hy : lookO l y = some (.imm (.int kk n)))
    (h0 : 0 ≤ n) (hu : xs[n.toNat]? = some u) (hs : u.cells.length = ke.sz) : OpV C id l G nx df pk (.indexAddr t x y) (.imm (.eptr xs n.toNat 0)) [] :=
  O.of fun t L hA => by simp only [opA, hA.ev hx, hA.ev hy, aIndexAddr, hk.is, ht, he.is, if_pos h0, elemAddr, hu, if_pos hs]
theorem O.load1 {x : Operand} {t : TypeId} {k : TyI} {xs : List IV} {n : Nat} {u : IV} [hk : TyIs C t k] (hx : lookO l x = some (.imm (.eptr xs n 0))) (hu : xs[n]? = some u) (hc : u.cells = [u]) (hg : k.d.isAgg = false) (hs : k.sz = 1) :
    OpV C id l G nx df pk (.load t x) (.imm u) [] :=
  O.of fun t L hA => by simp [opA, hA.ev hx, aLoad, hk.is, hg, hs, readAt, hu, hc, sub]
theorem O.addrR {x y : Operand} {t e et : TypeId} {k ke : TyI} {o m sz : Nat} {xs : List AV} {fr : Bool} {kk : IntKind} {n : Int} [hk : TyIs C t k] (ht : k.d = .sl e) [he : TyIs C e ke] (hx : lookO l x = some (.row o m)) (hy : lookO l y = some (.imm (.int kk n)))
    (hG : G o = .row et sz xs fr) (hm : xs.length = m) (h0 : 0 ≤ n ∧ n < m) (hs : sz = ke.sz) : OpV C id l G nx df pk (.indexAddr t x y) (.rptr o m n.toNat 0) [] :=
  O.of fun t L hA => by
    have : n.toNat < m := by omega
    simp only [opA, hA.ev hx, hA.ev hy, aIndexAddr, hk.is, ht, he.is, if_pos h0.1, elemAddr, hG]
    rw [if_pos ⟨hm, this, hs⟩]
theorem O.loadR {x : Operand} {t et : TypeId} {k : TyI} {o m n sz : Nat} {xs : List AV} {fr : Bool} {u : AV} [hk : TyIs C t k] (hx : lookO l x = some (.rptr o m n 0)) (hG : G o = .row et sz xs fr) (hm : xs.length = m) (hu : xs[n]? = some u) (hc : u.cells = [u]) (hg : k.d.isAgg = false) (hs : k.sz = 1) :
    OpV C id l G nx df pk (.load t x) u [] :=
  O.of fun t L hA => by simp [opA, hA.ev hx, aLoad, hk.is, hg, hs, readAt, hG, hm, hu, hc, sub]
theorem O.alloc {t : TypeId} {k : TyI} [hk : TyIs C t k] {cs : List AV} (hc : k.zero.cells = cs) (hs : cs.length = k.sz) : OpV C id l G nx df pk (.alloc t) (.ptr id 0) [(id, .set (.box cs false))] :=
  O.of fun t L hA => by simp [opA, aAlloc, hk.is, hs, hc]
def Ret (C : Cfg) (f : FuncId) (ivs : List IV) (x : IV) : Prop := ∃ n v G' nx' pk' ids, (low C n).call f (ivs.map .imm) .no (fun _ => .gone) 0 = some (.ret v G' nx', pk') ∧ peek G' pkDepth v = some (x, ids)
class FnIs (C : Cfg) (f : FuncId) : Prop where
  byref : C.byref f = false
  orc : ∀ l, C.orc f l = none
theorem peeks_imm (G : Nat → Obj) : ∀ l : List IV, peeks G (l.map .imm) = some (l, [])
  | [] => rfl
  | x :: r => by
    have := peeks_imm G r
    unfold peeks at this ⊢
    simp only [List.map_cons, peekL, this]
    rfl
theorem give_nil (small : Bool) (v : AV) : give [] small v = .val v [] := by cases small <;> rfl
def imms : List AV → Option (List IV)
  | [] => some []
  | .imm x :: r => match imms r with
    | some l => some (x :: l)
    | none => none
  | _ :: _ => none
theorem imms_eq : ∀ {l : List AV} {xs : List IV}, imms l = some xs → l = xs.map .imm
  | [], xs, h => by cases h; rfl
  | .imm x :: r, xs, h => by
    unfold imms at h
    split at h
    · rename_i l hl
      cases h
      rw [List.map_cons, imms_eq hl]
    · cases h
  | .undef :: r, xs, h => by cases h
  | .nils :: r, xs, h => by cases h
  | .ptr _ _ :: r, xs, h => by cases h
  | .rptr _ _ _ _ :: r, xs, h => by cases h
  | .row _ _ :: r, xs, h => by cases h
  | .map _ :: r, xs, h => by cases h
  | .fn _ _ :: r, xs, h => by cases h
  | .agg _ :: r, xs, h => by cases h
  | .tup _ :: r, xs, h => by cases h
  | .yld _ :: r, xs, h => by cases h
theorem O.call {f : FuncId} {ars : List Operand} {ats : Array TypeId} {vs : List AV} {ivs : List IV} {x : IV} [hf : FnIs C f] (ha : looks l ars = some vs) (hi : imms vs = some ivs) (hr : Ret C f ivs x) :
    OpV C id l G nx df pk (.call { callee := .value (.func f), args := ⟨ars⟩, argTypes := ats }) (.imm x) [] := by
  obtain ⟨n, v, G', nx', pk', ids, h1, h2⟩ := hr
  refine ⟨fun t ht => ⟨n, ?_⟩⟩
  simp only [opA, ev, aCall, fnOf, List.map_nil, List.append_nil, callA, hf.byref, Bool.false_eq_true, if_false, ht.evs ha, imms_eq hi, peeks_imm, hf.orc, h1, h2, give_nil]
/-! ### a function's end -/
def fin (C : Cfg) (rs : List ResultVar) (Ψ : AV → (Nat → Obj) → Nat → Prop) : Out → Prop
  | .norm s | .ret s => s.defers = [] ∧ s.pk = .no ∧ ∃ v, resultsA C s rs = some v ∧ Ψ v s.G s.nx
  | _ => False
theorem call_of {f : FuncId} {fn : Func} {b : Code} {args : List AV} {Ψ : AV → (Nat → Obj) → Nat → Prop} (hf : C.fn f = some fn) (hb : fn.body = some b) (hn : args.length ≤ fn.ntmps)
    (h : Wst C f fn.ntmps b ⟨initT args, G, nx, [], .no⟩ (fin C fn.results.toList Ψ)) (ha : C.at f = C := by exact rfl) : ∃ n v G' nx', (low C n).call f args .no G nx = some (.ret v G' nx', .no) ∧ Ψ v G' nx' := by
  obtain ⟨n, o, h1, h2⟩ := h
  have go : ∀ s : St, (s.defers = [] ∧ s.pk = .no ∧ ∃ v, resultsA C s fn.results.toList = some v ∧ Ψ v s.G s.nx) → ∃ v, leaveA C (low C n) fn.results.toList s.defers none s = some (.ret v s.G s.nx, .no) ∧ Ψ v s.G s.nx := by
    intro s ⟨hd, hp, v, hv, hΨ⟩
    exact ⟨v, by rw [hd]; simp only [leaveA, hv, hp], hΨ⟩
  cases o with
  | norm s =>
    obtain ⟨v, h3, h4⟩ := go s h2
    exact ⟨n + 1, v, s.G, s.nx, by simp only [low, ha, callF, hf, hb, if_pos hn, h1, h3], h4⟩
  | ret s =>
    obtain ⟨v, h3, h4⟩ := go s h2
    exact ⟨n + 1, v, s.G, s.nx, by simp only [low, ha, callF, hf, hb, if_pos hn, h1, h3], h4⟩
  | exit _ _ => exact h2.elim
  | pan _ _ => exact h2.elim
def envOf : Nat → List AV → Env
  | _, [] => []
  | i, v :: r => (i, v) :: envOf (i + 1) r
theorem agree_init (args : List AV) : Agree (initT args) (envOf 0 args) := by
  have key : ∀ (l : List AV) (k : Nat) i v, look (envOf k l) i = some v → k ≤ i ∧ l[i - k]? = some v := by
    intro l
    induction l with
    | nil => intro k i v h; cases h
    | cons x r ih =>
      intro k i v h
      unfold envOf look at h
      split at h
      · rename_i hb
        have : i = k := Nat.eq_of_beq_eq_true hb
        cases h
        subst this
        simp
      · obtain ⟨h1, h2⟩ := ih (k + 1) i v h
        refine ⟨by omega, ?_⟩
        have : i - k = (i - (k + 1)) + 1 := by omega
        rw [this]; simpa using h2
  intro i v h
  obtain ⟨_, h2⟩ := key args 0 i v h
  unfold initT
  simp only [Nat.sub_zero] at h2
  rw [h2]; rfl
theorem Ret.of {f : FuncId} {fn : Func} {b : Code} {ivs : List IV} {x : IV} (hf : C.fn f = some fn) (hb : fn.body = some b) (hn : Nat.ble ivs.length fn.ntmps = true)
    (h : W C f fn.ntmps b (envOf 0 (ivs.map .imm)) (fun _ => .gone) 0 [] .no (fin C fn.results.toList fun v G _ => ∃ ids, peek G pkDepth v = some (x, ids))) (ha : C.at f = C := by exact rfl) : Ret C f ivs x := by
  obtain ⟨n, v, G', nx', h1, ids, h2⟩ := call_of hf hb (by simpa using Nat.le_of_ble_eq_true hn) (h.st _ (agree_init _)) ha
  exact ⟨n, v, G', nx', .no, ids, h1, h2⟩
def resE (l : Env) : List ResultVar → Option (List AV)
  | [] => some []
  | .tmp t :: rs => match look l t, resE l rs with
    | some v, some vs => some (v :: vs)
    | _, _ => none
  | _ :: _ => none
theorem resE_ok {s : St} (h : Agree s.tmps l) : ∀ {rs : List ResultVar} {vs : List AV}, resE l rs = some vs → resultsL C s rs = some vs
  | [], vs, hr => by cases hr; rfl
  | .tmp t :: rs, vs, hr => by
    unfold resE at hr
    split at hr
    · rename_i v ws hv hw
      cases hr
      simp only [resultsL, resultA, h t v hv, resE_ok h hw]
    · cases hr
  | .cell _ _ :: rs, vs, hr => by cases hr
theorem W.retFin1 {t : Nat} {Ψ : AV → (Nat → Obj) → Nat → Prop} (hv : look l t = some v) (h : Ψ v G nx) : W C fid nt .ret l G nx [] .no (fin C [.tmp t] Ψ) :=
  .ret fun t ht => ⟨rfl, rfl, v, by simp only [resultsA, resultsL, resultA, ht _ v hv], h⟩
theorem W.retFin {rs : List ResultVar} {vs : List AV} {Ψ : AV → (Nat → Obj) → Nat → Prop} (hv : resE l rs = some vs) (hn : Nat.beq vs.length 1 = false) (h : Ψ (mkTup vs) G nx) : W C fid nt .ret l G nx [] .no (fin C rs Ψ) :=
  .ret fun t ht => ⟨rfl, rfl, mkTup vs, by
    simp only [resultsA, resE_ok (s := ⟨t, G, nx, [], .no⟩) ht hv]
    split
    · simp_all
    · rename_i heq; cases heq; rfl
    · simp_all, h⟩
end Go.Abs

/- The abstract interpreter: a logic of what code comes to: calls by reference, rounds, ranges over functions. -/
namespace Go.Abs
variable {C : Cfg} {fid nt : Nat} {l : Env} {G : Nat → Obj} {nx : Nat} {df : List (AV × List AV)} {pk : Pk} {Φ Φ' : Out → Prop} {a b : Code} {ol r : List Oper} {base i d : Nat} {ty : TypeId} {pos : String} {af : Array Edge} {v : AV} {id : Nat}
theorem R.gen {P : (Nat → Obj) → Nat → Nat → Prop} (h0 : P G nx base) (h : ∀ G nx base, P G nx base → R C nt ol base i r l G nx df pk Φ) : R C nt ol base i r l G nx df pk Φ := h _ _ _ h0
def Cal (C : Cfg) (f : FuncId) (vs : List AV) (G : Nat → Obj) (nx : Nat) (Ψ : AV → (Nat → Obj) → Nat → Prop) : Prop := ∃ n v G' nx', (low C n).call f vs .no G nx = some (.ret v G' nx', .no) ∧ Ψ v G' nx'
theorem Cal.mono {q : Nat} {vs : List AV} {Ψ Ψ' : AV → (Nat → Obj) → Nat → Prop} (h : Cal C q vs G nx Ψ) (hi : ∀ v G' nx', Ψ v G' nx' → Ψ' v G' nx') : Cal C q vs G nx Ψ' := by
  obtain ⟨n, v, G', nx', h1, h2⟩ := h
  exact ⟨n, v, G', nx', h1, hi _ _ _ h2⟩
theorem Cal.of {f : FuncId} {fn : Func} {b : Code} {vs : List AV} {Ψ : AV → (Nat → Obj) → Nat → Prop} (hf : C.fn f = some fn) (hb : fn.body = some b) (hn : Nat.ble vs.length fn.ntmps = true)
    (h : W C f fn.ntmps b (envOf 0 vs) G nx [] .no (fin C fn.results.toList Ψ)) (ha : C.at f = C := by exact rfl) : Cal C f vs G nx Ψ :=
  call_of hf hb (Nat.le_of_ble_eq_true hn) (h.st _ (agree_init _)) ha
theorem R.wr {op : Op} {G' : Nat → Obj} {nx' : Nat} (h : ∀ t, Agree t l → ∃ n, opA C (low C n) (base + i) ⟨t, G, nx, df, pk⟩ op = some (.wr v ⟨t, G', nx', df, pk⟩)) (hd : Nat.ble (d + 1) nt = true)
    (next : R C nt ol base (i + 1) r ((d, v) :: l) G' nx' df pk Φ) : R C nt ol base i (⟨some d, op, ty, pos, af, none⟩ :: r) l G nx df pk Φ := by
  refine .mk fun t ht => ?_
  obtain ⟨n, hn⟩ := h t ht
  obtain ⟨m, o, h1, h2⟩ := next.st (upd t d v) (ht.put d v)
  refine ⟨max n m, o, ?_, h2⟩
  have hlt : d < nt := Nat.le_of_ble_eq_true hd
  unfold runL stepA
  simp only [wantA, opA_mono (low_mono (Nat.le_max_left n m)) hn, put, if_pos hlt]
  exact runL_mono (low_mono (Nat.le_max_right n m)) _ _ _ h1
theorem R.callB {f : Operand} {ars : List Operand} {ats : Array TypeId} {vs cap : List AV} {fv : AV} {k : FuncId} (hf : lookO l f = some fv) (hfn : fnOf fv = some (.func k, cap)) (hb : C.byref k = true) (ha : looks l ars = some vs) (hd : Nat.ble (d + 1) nt = true)
    (hr : Cal C k (vs ++ cap) G nx fun v G' nx' => R C nt ol base (i + 1) r ((d, v) :: l) G' nx' df pk Φ) :
    R C nt ol base i (⟨some d, .call { callee := .value f, args := ⟨ars⟩, argTypes := ats }, ty, pos, af, none⟩ :: r) l G nx df pk Φ := by
  obtain ⟨n, v, G', nx', h1, h2⟩ := hr
  refine R.wr (G' := G') (nx' := nx') (fun t ht => ⟨n, ?_⟩) hd h2
  simp only [opA, ht.ev hf, ht.evs ha]
  have : aCall C (low C n) (base + i) ⟨t, G, nx, df, pk⟩ fv vs = callA C (low C n) (base + i) ⟨t, G, nx, df, pk⟩ k (vs ++ cap) := by
    unfold aCall
    split
    · cases hfn
    · rw [hfn]
  rw [this]
  simp only [callA, hb, if_true, h1]
/-! ### rounds -/
def bindE (l : Env) : List (Nat × AV) → Env
  | [] => l
  | (p, v) :: r => bindE ((p, v) :: l) r
theorem agree_bind : ∀ (ps : List (Nat × AV)) {t : Nat → AV} {l : Env}, Agree t l → Agree (bindT t ps) (bindE l ps)
  | [], _, _, h => h
  | (p, v) :: r, _, _, h => agree_bind r (h.put p v)
/-! ### ranges over functions -/
def rng (q : Nat) (t : Nat → AV) (df : List (AV × List AV)) (pk : Pk) (Φ : Out → Prop) (_ : AV) (G1 : Nat → Obj) (nx1 : Nat) : Prop :=
  ∃ t2 n2 p2 a2 b2 f2 st pend, G1 q = .lp t2 n2 p2 a2 b2 f2 st pend ∧ st ≠ 1 ∧ match pend with
    | none => Φ (.norm ⟨t, upd G1 q .gone, nx1, df, pk⟩)
    | some (.exit id) => Φ (.exit id ⟨t, upd G1 q .gone, nx1, df, pk⟩)
    | some .ret => Φ (.ret ⟨t, upd G1 q .gone, nx1, df, pk⟩)
    | _ => False
def pendOut (s : St) : Option Code → Option Out
  | none => some (.norm s)
  | some (.exit id) => some (.exit id s)
  | some .ret => some (.ret s)
  | _ => none
def Pk.isRnd : Pk → Bool
  | .rnd => true
  | _ => false
/-! ### rows of the call's own -/
theorem O.buildS {t e : TypeId} {n : Nat} {parts : List (Nat × Operand)} {k ke : TyI} {xs : List AV} [hk : TyIs C t k] (ht : k.d = .sl e) [he : TyIs C e ke] (hp : looks l (parts.map (·.2)) = some xs) (hi : parts.map (·.1) = List.range n)
    (hn : n * ke.sz ≤ 4096) (hz : ke.zero.fits ke.sz = true) (hx : xs.all (AV.fits ke.sz) = true) (hs : 0 < ke.sz) :
    OpV C id l G nx df pk (.buildSlice t n ⟨parts⟩) (.row id n) [(id, .set (.row e ke.sz xs false))] := by
  have hlen : xs.length = n := by
    have : ∀ (l' : List Operand) {vs : List AV}, looks l l' = some vs → vs.length = l'.length := by
      intro l'
      induction l' with
      | nil => intro vs h; cases h; rfl
      | cons x r ih =>
        intro vs h
        unfold looks at h
        split at h
        · split at h
          · rename_i hw; cases h; simp [ih hw]
          · cases h
        · cases h
    have h1 := this _ hp
    have h2 := congrArg List.length hi
    simp at h1 h2
    omega
  refine O.of fun t' L hA => ?_
  have hev := hA.evs hp
  have hparts : (parts.map fun p => (p.1, Go.Abs.ev t' p.2)) = (List.range n).zip xs := by
    rw [← hi, ← hev, List.map_map]
    rw [List.zip_map', ]
    rfl
  have key : ∀ (xs ys : List AV) (k : Nat), k + xs.length = ys.length → fillE ys ((List.range' k xs.length).zip xs) = ys.take k ++ xs := by
    intro xs
    induction xs with
    | nil => intro ys k h; simp at h; simp [fillE, h]
    | cons x r ih =>
      intro ys k h
      simp only [List.length_cons] at h
      simp only [List.length_cons, List.range'_succ, List.zip_cons_cons, fillE]
      rw [ih (ys.set k x) (k + 1) (by simp; omega)]
      rw [List.take_set, List.take_succ_eq_append_getElem (by omega)]
      rw [List.set_append_right _ _ (by simp; omega)]
      simp
      have : k - min k ys.length = 0 := by omega
      rw [this]; simp
  have hfill : fillE (List.replicate n ke.zero) ((List.range n).zip xs) = xs := by
    rw [List.range_eq_range', ← hlen]
    have := key xs (List.replicate xs.length ke.zero) 0 (by simp)
    simpa using this
  have hall : ((List.range n).zip xs).all (fun p => p.2.fits ke.sz && decide (p.1 < n)) = true := by
    rw [List.all_eq_true]
    intro p hp
    have h1 := List.of_mem_zip hp
    rw [List.all_eq_true] at hx
    simp only [List.mem_range] at h1
    simp [hx _ h1.2, h1.1]
  simp only [opA, aBuildSlice, hk.is, ht, he.is, hparts]
  rw [if_pos ⟨hn, hz, hall, hs⟩, hfill]
theorem O.appNil {t u e : TypeId} {x y : Operand} {k ke : TyI} {ys : List AV} [hk : TyIs C t k] (ht : k.d = .sl e) [he : TyIs C e ke] (hu : Nat.beq t u = true) (hx : lookO l x = some .nils) {w : AV} (hy : lookO l y = some w) (hw : elems G w = some ys)
    (hs : 0 < ke.sz) (hb : ke.bytes ≤ 4096) (hz : ke.zero.fits ke.sz = true) (hys : ys.all (AV.fits ke.sz) = true) (hm : ys.length ≤ most) :
    OpV C id l G nx df pk (.call { callee := .builtin .append, args := #[x, y], argTypes := #[t, u] }) (.row id ys.length) [(id, .set (.row e ke.sz ys false))] := by
  have : t = u := Nat.eq_of_beq_eq_true hu
  subst this
  refine O.of fun t' L hA => ?_
  simp only [opA, List.map_cons, List.map_nil, hA.ev hx, hA.ev hy, aBuiltin, aAppend, hk.is, ht, he.is, hw]
  rw [if_pos ⟨trivial, hs, hb, hz, hys⟩]
  simp [hm]
theorem O.appRow {t u e : TypeId} {x y : Operand} {k ke : TyI} {xs ys : List AV} {o n : Nat} [hk : TyIs C t k] (ht : k.d = .sl e) [he : TyIs C e ke] (hu : Nat.beq t u = true) (hx : lookO l x = some (.row o n)) (hG : G o = .row e ke.sz xs false) (hn : xs.length = n) {w : AV} (hy : lookO l y = some w) (hw : elems G w = some ys)
    (hs : 0 < ke.sz) (hb : ke.bytes ≤ 4096) (hz : ke.zero.fits ke.sz = true) (hys : ys.all (AV.fits ke.sz) = true) (hm : n + ys.length ≤ most) :
    OpV C id l G nx df pk (.call { callee := .builtin .append, args := #[x, y], argTypes := #[t, u] }) (.row o (xs ++ ys).length) [(o, .set (.row e ke.sz (xs ++ ys) false))] := by
  have : t = u := Nat.eq_of_beq_eq_true hu
  subst this
  refine O.of fun t' L hA => ?_
  simp only [opA, List.map_cons, List.map_nil, hA.ev hx, hA.ev hy, aBuiltin, aAppend, hk.is, ht, he.is, hw]
  rw [if_pos ⟨trivial, hs, hb, hz, hys⟩]
  simp only [hG]
  rw [if_pos ⟨hn, trivial, trivial, hm⟩]
end Go.Abs

/- The seat: the program's types, its functions that are called by reference, and those with a contract. -/
open Go Go.Abs
namespace Go.Abs
def byrefs : Nat → Bool := fun f => [162,163,106,131,132,134,133,175,107,129,102,82,85,86,87,157,75,77,89,90,93,94,139,140,143,144,147,148,149,150,152,203,204].contains f
def ints : List IV → List Int
  | [] => []
  | .int _ n :: r => n :: ints r
  | _ :: r => ints r
def ins (x : Int) : List Int → List Int
  | [] => [x]
  | y :: r => if x ≤ y then x :: y :: r else y :: ins x r
def isort : List Int → List Int
  | [] => []
  | x :: r => ins x (isort r)
def isStrIV : IV → Bool
  | .str _ => true
  | _ => false
def isIntIV : IV → Bool
  | .int .i64 _ => true
  | _ => false
def orcs : Nat → List IV → Option OrcR
  | 50, [.lst xs] => if xs.all isStrIV = true ∧ xs.length ≤ 4294967296 then some (.own 9 1 xs) else none
  | 69, [.fmp ks _] => if ks.all isIntIV = true ∧ ks.length ≤ 4294967296 then some (.own 3 1 ((isort (ints ks)).map (.int .i64))) else none
  | 205, [.lst xs] => if xs.all isIntIV = true ∧ xs.length ≤ 4294967296 then some (.own 3 1 xs) else none
  | _, _ => none
def odds : Nat → Option (Nat → Bool) := fun f => if f == 900000 || f == 116 then some fun g => g == 48 else none
noncomputable def CC : Cfg := { P := Go.Proofs.Tryz.prog, byref := byrefs, orc := orcs, odd := odds }
def ty3 : TyI := { d := TyD.int IntKind.i64, sz := 1, bytes := 8, zero := AV.imm (IV.int IntKind.i64 (0)) }
instance tyis3 : TyIs CC 3 ty3 := ⟨by kernel_rfl⟩
def ty4 : TyI := { d := TyD.bool, sz := 1, bytes := 1, zero := AV.imm (IV.bool false) }
instance tyis4 : TyIs CC 4 ty4 := ⟨by kernel_rfl⟩
def ty9 : TyI := { d := TyD.str, sz := 1, bytes := 16, zero := AV.imm (IV.str { data := { toList := [] } }) }
instance tyis9 : TyIs CC 9 ty9 := ⟨by kernel_rfl⟩
def ty22 : TyI := { d := TyD.sl 9, sz := 1, bytes := 24, zero := AV.nils }
instance tyis22 : TyIs CC 22 ty22 := ⟨by kernel_rfl⟩
def ty61 : TyI := { d := TyD.mp 9 4, sz := 1, bytes := 8, zero := AV.imm IV.nilmap }
instance tyis61 : TyIs CC 229 ty61 := ⟨by kernel_rfl⟩
noncomputable def retOf (C : Cfg) (n : Nat) (f : FuncId) (ivs : List IV) : Option IV := match (low C n).call f (ivs.map .imm) .no (fun _ => .gone) 0 with
  | some (.ret v G' _, _) => match peek G' pkDepth v with
    | some (x, _) => some x
    | none => none
  | _ => none
theorem Ret.reckon {n : Nat} {f : FuncId} {ivs : List IV} {x : IV} {C : Cfg} (h : retOf C n f ivs = some x) : Ret C f ivs x := by
  unfold retOf at h
  split at h
  · rename_i v G' nx' pk' hc
    split at h
    · rename_i y ids hp
      cases h
      exact ⟨n, v, G', nx', pk', ids, hc, hp⟩
    · cases h
  · cases h
/-! strings, as lists of their bytes -/
abbrev Str := List UInt8
def sv (s : Str) : IV := .str ⟨s.toArray⟩
theorem sv_size (s : Str) : (ByteArray.mk s.toArray).size = s.length := by simp [ByteArray.size]
theorem sv_toList (s : Str) : (ByteArray.mk s.toArray).toList = s := by rw [ByteArray.toList_eq]
theorem sv_get (s : Str) (i : Nat) : (ByteArray.mk s.toArray).data.getD i 0 = s.getD i 0 := by simp
theorem sv_eta (b : ByteArray) : IV.str b = sv b.data.toList := by cases b; simp [sv]
theorem sv_beq (a b : Str) : ((ByteArray.mk a.toArray) == (ByteArray.mk b.toArray)) = (a == b) := by
  show (a.toArray == b.toArray) = (a == b)
  simp
variable {C : Cfg} {l : Env} {G : Nat → Obj} {nx : Nat} {df : List (AV × List AV)} {pk : Pk} {id : Nat}
theorem O.svEq {t : TypeId} {x y : Operand} {t2 : TypeId} {a b : Str} (hx : lookO l x = some (.imm (sv a))) (hy : lookO l y = some (.imm (sv b))) : OpV C id l G nx df pk (.binOp .eql t x y t2) (.imm (.bool (a == b))) [] :=
  O.str hx hy (by simp only [strOp, sv_toList])
theorem O.svNe {t : TypeId} {x y : Operand} {t2 : TypeId} {a b : Str} (hx : lookO l x = some (.imm (sv a))) (hy : lookO l y = some (.imm (sv b))) : OpV C id l G nx df pk (.binOp .neq t x y t2) (.imm (.bool !(a == b))) [] :=
  O.str hx hy (by simp only [strOp, sv_toList])
theorem O.lenSv {x : Operand} {t : TypeId} {k : TyI} [hk : TyIs C t k] {s : Str} (hx : lookO l x = some (.imm (sv s))) (hl : k.d = .str) : OpV C id l G nx df pk (.call { callee := .builtin .len, args := #[x], argTypes := #[t] }) (.imm (.int .i64 s.length)) [] := by
  have := O.lenS (C := C) (t := t) (id := id) (G := G) (nx := nx) (df := df) (pk := pk) hx hl
  rwa [sv_size] at this
theorem O.indexSv {x y : Operand} {t : TypeId} {k : TyI} {kk : IntKind} {s : Str} {n : Nat} {c : UInt8} [hk : TyIs C t k] (ht : k.d = .str) (hx : lookO l x = some (.imm (sv s))) (hy : lookO l y = some (.imm (.int kk n))) (hn : s[n]? = some c) :
    OpV C id l G nx df pk (.index t x y) (.imm (.int .u8 c.toNat)) [] := by
  have h1 : n < s.length := by
    rw [List.getElem?_eq_some_iff] at hn; exact hn.1
  have := O.index (C := C) (t := t) (id := id) (G := G) (nx := nx) (df := df) (pk := pk) ht hx hy ⟨Int.natCast_nonneg _, by rw [sv_size]; omega⟩
  rw [sv_get] at this
  have e : s.getD n 0 = c := by rw [List.getD_eq_getElem?_getD, hn]; rfl
  rwa [Int.toNat_natCast, e] at this
def keyAt (k : IV) (ks vs : List IV) (z : IV) : Option IV := match keyFind k ks with
  | some (some j) => vs[j]?
  | some none => some z
  | none => none
theorem O.lookF {t kt e : TypeId} {m x : Operand} {k kk ke : TyI} {key z : IV} {ks vs : List IV} {u : IV} [hk : TyIs C t k] (ht : k.d = .mp kt e) [hkk : TyIs C kt kk] [hke : TyIs C e ke] (hm : lookO l m = some (.imm (.fmp ks vs))) (hx : lookO l x = some (.imm key)) (ho : keyOk kk.d key = true)
    (hz : ke.zero = .imm z) (hu : keyAt key ks vs z = some u) : OpV C id l G nx df pk (.lookup t m x false) (.imm u) [] := by
  refine O.of fun t' L hA => ?_
  unfold keyAt at hu
  simp only [opA, hA.ev hm, hA.ev hx, Go.Abs.lookA, hk.is, ht, mapKV, hkk.is, if_pos ho]
  split at hu
  · rename_i j hj
    simp only [hj, List.getElem?_map, hu, Option.map_some]
    rfl
  · rename_i hj
    cases hu
    simp only [hj, hke.is, hz]
    rfl
  · cases hu
end Go.Abs

/- The abstract interpreter: what abstract values and states say of the machine's. -/
namespace Go.Abs
abbrev Mem := Nat → Option Go.Obj
def at_ (vs : Array Value) (i : Nat) : Value := vs.getD i Go.undef
def VL {α : Type} (P : α → Value → Prop) (l : List α) (vs : Array Value) : Prop :=
  l.length = vs.size ∧ ∀ (i : Nat) x, l[i]? = some x → P x (at_ vs i)
def Born (es : Array MapEntry) (clk : Nat) : Prop := (∀ x ∈ es.toList, x.born < clk) ∧ (es.toList.map (·.born)).Nodup
inductive VI (M : Mem) : IV → Value → Prop where
  | bool (b) : VI M (.bool b) (.bool b)
  | int (k n) : VI M (.int k n) (.int k n)
  | str (s) : VI M (.str s) (.string s)
  | nil : VI M (.lst []) (.slice none 0 0)
  | empty (a : Addr) (c) : VI M (.lst []) (.slice (some a) 0 c)
  | lst (xs b off c cs e fr sz) (h0 : xs ≠ []) (hc : xs.length ≤ c) (h : M b = some (.cells cs e fr)) (hs : 0 < sz)
      (h1 : ∀ (i : Nat) x, xs[i]? = some x → (IV.cells x).length = sz) (h2 : off + xs.length * sz ≤ cs.size)
      (hl : ∀ (i : Nat) x (j : Nat) y, xs[i]? = some x → (IV.cells x)[j]? = some y → VI M y (at_ cs (off + i * sz + j))) :
      VI M (.lst xs) (.slice (some ⟨b, off, none⟩) xs.length c)
  | agg (xs) (vs : Array Value) (h : xs.length = vs.size) (hl : ∀ (i : Nat) x, xs[i]? = some x → VI M x (at_ vs i)) : VI M (.agg xs) (.agg vs)
  | tup (xs) (vs : Array Value) (h : xs.length = vs.size) (hl : ∀ (i : Nat) x, xs[i]? = some x → VI M x (at_ vs i)) : VI M (.tup xs) (.tuple vs)
  | fptr (cs off b vs e fr o0) (h : M b = some (.cells vs e fr)) (h2 : o0 + cs.length ≤ vs.size) (hl : ∀ (j : Nat) y, cs[j]? = some y → VI M y (at_ vs (o0 + j))) :
      VI M (.fptr cs off) (.pointer (some ⟨b, o0 + off, none⟩))
  | eptr (xs i off b vs e fr o0 sz) (h : M b = some (.cells vs e fr)) (hs : 0 < sz)
      (h1 : ∀ (i : Nat) x, xs[i]? = some x → (IV.cells x).length = sz) (h2 : o0 + xs.length * sz ≤ vs.size)
      (hl : ∀ (i : Nat) x (j : Nat) y, xs[i]? = some x → (IV.cells x)[j]? = some y → VI M y (at_ vs (o0 + i * sz + j))) :
      VI M (.eptr xs i off) (.pointer (some ⟨b, o0 + i * sz + off, none⟩))
  | nilp : VI M .nilp (.pointer none)
  | nilfn : VI M .nilfn .nilFunc
  | nilmap : VI M .nilmap (.map none)
  | niliface : VI M .niliface .nilIface
  | iface (t x v) (h : VI M x v) : VI M (.iface t x) (.iface t v)
  | fn (f cap) (vs : Array Value) (h : cap.length = vs.size) (hl : ∀ (i : Nat) x, cap[i]? = some x → VI M x (at_ vs i)) : VI M (.fn f cap) (.func f #[] vs)
  | fmp (ks vs b es clk) (h : M b = some (.map es clk)) (hk : ks.length = es.size) (hv : vs.length = es.size)
      (hks : ∀ (i : Nat) x, ks[i]? = some x → VI M x (es.getD i default).key) (hvs : ∀ (i : Nat) x, vs[i]? = some x → VI M x (es.getD i default).val) (hbn : Born es clk) :
      VI M (.fmp ks vs) (.map (some b))
def Mem.le (M M' : Mem) : Prop := ∀ b o, M b = some o → M' b = some o
theorem Mem.le_refl (M : Mem) : M.le M := fun _ _ h => h
theorem Mem.le_trans {A B C : Mem} (h : A.le B) (k : B.le C) : A.le C := fun b o e => k b o (h b o e)
theorem VI.mono {M M' : Mem} (hm : M.le M') {x : IV} {v : Value} (h : VI M x v) : VI M' x v := by
  induction h with
  | bool => exact .bool _
  | int => exact .int _ _
  | str => exact .str _
  | nil => exact .nil
  | empty => exact .empty _ _
  | lst xs b off c cs e fr sz h0 hc h hs h1 h2 _ ih => exact .lst xs b off c cs e fr sz h0 hc (hm _ _ h) hs h1 h2 ih
  | agg xs vs h _ ih => exact .agg xs vs h ih
  | tup xs vs h _ ih => exact .tup xs vs h ih
  | fptr cs off b vs e fr o0 h h2 _ ih => exact .fptr cs off b vs e fr o0 (hm _ _ h) h2 ih
  | eptr xs i off b vs e fr o0 sz h hs h1 h2 _ ih => exact .eptr xs i off b vs e fr o0 sz (hm _ _ h) hs h1 h2 ih
  | nilp => exact .nilp
  | nilfn => exact .nilfn
  | nilmap => exact .nilmap
  | niliface => exact .niliface
  | iface t x v _ ih => exact .iface t x v ih
  | fn f cap vs h _ ih => exact .fn f cap vs h ih
  | fmp ks vs b es clk h hk hv _ _ hbn ih1 ih2 => exact .fmp ks vs b es clk (hm _ _ h) hk hv ih1 ih2 hbn
theorem VI.any {M : Mem} {x : IV} {v : Value} (h : VI M x v) (hs : x.scalar = true) (M' : Mem) : VI M' x v := by
  have key : ∀ l : List IV, IV.scalars l = true → ∀ (i : Nat) x, l[i]? = some x → x.scalar = true := by
    intro l
    induction l with
    | nil => intro _ i x hx; simp at hx
    | cons y r ih =>
      intro hl i x hx
      simp only [IV.scalars, Bool.and_eq_true] at hl
      cases i with
      | zero => simp at hx; exact hx ▸ hl.1
      | succ i => exact ih hl.2 i x (by simpa using hx)
  induction h with
  | bool => exact .bool _
  | int => exact .int _ _
  | str => exact .str _
  | agg xs vs h _ ih => exact .agg xs vs h fun i x hx => ih i x hx (key _ (by simpa [IV.scalar] using hs) i x hx)
  | tup xs vs h _ ih => exact .tup xs vs h fun i x hx => ih i x hx (key _ (by simpa [IV.scalar] using hs) i x hx)
  | nilp => exact .nilp
  | nilfn => exact .nilfn
  | nilmap => exact .nilmap
  | niliface => exact .niliface
  | iface t x v _ ih => exact .iface t x v (ih (by simpa [IV.scalar] using hs))
  | _ => simp [IV.scalar] at hs
abbrev Ref := Nat → Option Value
inductive VA (M : Mem) (ρ : Ref) (G : Nat → Obj) : AV → Value → Prop where
  | imm (x v) (h : VI M x v) : VA M ρ G (.imm x) v
  | undef (v) : VA M ρ G .undef v
  | nils : VA M ρ G .nils (.slice none 0 0)
  | ptr (o off b) (h : ρ o = some (.pointer (some ⟨b, 0, none⟩))) : VA M ρ G (.ptr o off) (.pointer (some ⟨b, off, none⟩))
  | row (o n a l c) (hb : ρ o ≠ none) (h : ∀ et sz xs fr, G o = .row et sz xs fr → n ≤ xs.length ∧ (n = xs.length → ρ o = some (.slice a l c))) : VA M ρ G (.row o n) (.slice a l c)
  | rptr (o n i off b f) (hb : ρ o ≠ none)
      (h : ∀ et sz xs fr, G o = .row et sz xs fr → n ≤ xs.length ∧ (n = xs.length → ∃ l c, ρ o = some (.slice (some ⟨b, 0, none⟩) l c) ∧ f = i * sz + off)) :
      VA M ρ G (.rptr o n i off) (.pointer (some ⟨b, f, none⟩))
  | map (o b) (h : ρ o = some (.map (some b))) : VA M ρ G (.map o) (.map (some b))
  | yld (o l) (h : ρ o = some (.func (.yield l) #[] #[])) : VA M ρ G (.yld o) (.func (.yield l) #[] #[])
  | fn (f cap) (vs : Array Value) (h : cap.length = vs.size) (hl : ∀ (i : Nat) x, cap[i]? = some x → VA M ρ G x (at_ vs i)) : VA M ρ G (.fn f cap) (.func f #[] vs)
  | agg (xs) (vs : Array Value) (h : xs.length = vs.size) (hl : ∀ (i : Nat) x, xs[i]? = some x → VA M ρ G x (at_ vs i)) : VA M ρ G (.agg xs) (.agg vs)
  | tup (xs) (vs : Array Value) (h : xs.length = vs.size) (hl : ∀ (i : Nat) x, xs[i]? = some x → VA M ρ G x (at_ vs i)) : VA M ρ G (.tup xs) (.tuple vs)
structure Ev (M : Mem) (ρ : Ref) (G : Nat → Obj) (M' : Mem) (ρ' : Ref) (G' : Nat → Obj) : Prop where
  mem : M.le M'
  ref : ∀ o v, ρ o = some v → ρ' o = some v ∨ (∃ a l c, v = .slice a l c) ∧ ρ' o ≠ none
  row : ∀ o, ρ o ≠ none → ∀ et sz xs fr, G' o = .row et sz xs fr → ∃ xs0 fr0, G o = .row et sz xs0 fr0 ∧ xs0.length ≤ xs.length ∧ (xs0.length = xs.length → ρ' o = ρ o)
theorem Ev.refl (M : Mem) (ρ : Ref) (G : Nat → Obj) : Ev M ρ G M ρ G := ⟨Mem.le_refl M, fun _ _ h => .inl h, fun _ _ _ _ xs fr h => ⟨xs, fr, h, Nat.le_refl _, fun _ => rfl⟩⟩
theorem Ev.born {M M' : Mem} {ρ ρ' : Ref} {G G' : Nat → Obj} (h : Ev M ρ G M' ρ' G') {o : Nat} (hb : ρ o ≠ none) : ρ' o ≠ none := by
  cases e : ρ o with
  | none => exact absurd e hb
  | some v => rcases h.ref o v e with h | ⟨_, h⟩
              · rw [h]; simp
              · exact h
theorem Ev.trans {A B C : Mem} {ρ ρ1 ρ2 : Ref} {G G1 G2 : Nat → Obj} (h : Ev A ρ G B ρ1 G1) (k : Ev B ρ1 G1 C ρ2 G2) : Ev A ρ G C ρ2 G2 := by
  refine ⟨Mem.le_trans h.mem k.mem, fun o v e => ?_, fun o hb et sz xs fr e => ?_⟩
  · rcases h.ref o v e with h1 | ⟨h1, h2⟩
    · exact k.ref o v h1
    · exact .inr ⟨h1, k.born h2⟩
  · obtain ⟨x1, f1, e1, l1, p1⟩ := k.row o (h.born hb) et sz xs fr e
    obtain ⟨x0, f0, e0, l0, p0⟩ := h.row o hb et sz x1 f1 e1
    exact ⟨x0, f0, e0, Nat.le_trans l0 l1, fun hq => (p1 (by omega)).trans (p0 (by omega))⟩
theorem VA.mono {M M' : Mem} {ρ ρ' : Ref} {G G' : Nat → Obj} (hv : Ev M ρ G M' ρ' G') {x : AV} {v : Value} (h : VA M ρ G x v) : VA M' ρ' G' x v := by
  induction h with
  | imm x v h => exact .imm x v (h.mono hv.mem)
  | undef => exact .undef _
  | nils => exact .nils
  | ptr o off b h =>
    refine .ptr o off b ?_
    rcases hv.ref _ _ h with h | ⟨⟨a, l, c, h⟩, _⟩
    · exact h
    · cases h
  | row o n a l c hb h =>
    refine .row o n a l c (hv.born hb) fun et sz xs fr e => ?_
    obtain ⟨x0, f0, e0, l0, p0⟩ := hv.row o hb et sz xs fr e
    obtain ⟨h1, h2⟩ := h et sz x0 f0 e0
    exact ⟨by omega, fun hq => (p0 (by omega)).trans (h2 (by omega))⟩
  | rptr o n i off b f hb h =>
    refine .rptr o n i off b f (hv.born hb) fun et sz xs fr e => ?_
    obtain ⟨x0, f0, e0, l0, p0⟩ := hv.row o hb et sz xs fr e
    obtain ⟨h1, h2⟩ := h et sz x0 f0 e0
    exact ⟨by omega, fun hq => by rw [p0 (by omega)]; exact h2 (by omega)⟩
  | map o b h =>
    refine .map o b ?_
    rcases hv.ref _ _ h with h | ⟨⟨a, l, c, h⟩, _⟩
    · exact h
    · cases h
  | yld o l h =>
    refine .yld o l ?_
    rcases hv.ref _ _ h with h | ⟨⟨a, l, c, h⟩, _⟩
    · exact h
    · cases h
  | fn f cap vs h _ ih => exact .fn f cap vs h ih
  | agg xs vs h _ ih => exact .agg xs vs h ih
  | tup xs vs h _ ih => exact .tup xs vs h ih
def blk : Value → Option Nat
  | .pointer (some a) => some a.block
  | .slice (some a) _ _ => some a.block
  | .map (some b) => some b
  | .func (.yield l) _ _ => some l
  | _ => none
structure RowIs (M : Mem) (ρ : Ref) (G : Nat → Obj) (sz : Nat) (xs : List AV) (cs : List Value) : Prop where
  fit : ∀ x ∈ xs, x.fits sz = true
  cell : ∀ (i : Nat) x (j : Nat) y, xs[i]? = some x → x.cells[j]? = some y → VA M ρ G y (cs.getD (i * sz + j) Go.undef)
structure LoopIs (M : Mem) (ρ : Ref) (G : Nat → Obj) (tmps : Nat → AV) (nt : Nat) (params : List Nat) (assign body : Code) (fn : FuncId) (st : Nat) (pending : Option Code) (r : Loop) : Prop where
  tmps : ∀ t, VA M ρ G (tmps t) (r.tmps.getD t Go.undef)
  size : r.tmps.size = nt
  params : r.params.toList = params
  assign : r.assign = assign
  body : r.body = body
  fn : r.fn = fn
  state : (st = 0 ∧ r.state = .ready) ∨ (st = 1 ∧ r.state = .busy) ∨ (st = 2 ∧ r.state = .done)
  pending : r.pending = pending
def ObjOK (w : World) (M : Mem) (ρ : Ref) (G : Nat → Obj) (o : Nat) : Prop :=
  match G o with
  | .gone => True
  | .box cs fr => ∃ b vs e, ρ o = some (.pointer (some ⟨b, 0, none⟩)) ∧ w.heap[b]? = some (.cells vs e (0, 0)) ∧ VL (VA M ρ G) cs vs ∧ (fr = true → M b ≠ none)
  | .row et sz xs fr => 0 < sz ∧ ∃ v cs, ρ o = some v ∧ w.ownsRow 0 et sz v xs.length cs ∧ RowIs M ρ G sz xs cs ∧ (fr = true → ∀ b, blk v = some b → M b ≠ none)
  | .mp ks vs fr => ∃ b es clk, ρ o = some (.map (some b)) ∧ w.heap[b]? = some (.map es clk) ∧ ks.length = es.size ∧ vs.length = es.size ∧
      (∀ (i : Nat) x, ks[i]? = some x → VI M x (es.getD i default).key) ∧ (∀ (i : Nat) x, vs[i]? = some x → VA M ρ G x (es.getD i default).val) ∧ (fr = true → M b ≠ none) ∧ Born es clk
  | .it ks vs done => ∃ r, ρ o = some (.pointer (some ⟨r, 0, none⟩)) ∧ ((w.heap[r]? = some (.mapIter none 0 #[] 0) ∧ ks = []) ∨ ∃ bm es clk seen, w.heap[r]? = some (.mapIter (some bm) clk seen clk) ∧ M bm = some (.map es clk) ∧ Born es clk ∧
      ks.length = es.size ∧ vs.length = es.size ∧ es.size ≤ 1 ∧ (∀ (i : Nat) x, ks[i]? = some x → VI M x (es.getD i default).key) ∧ (∀ (i : Nat) x, vs[i]? = some x → VI M x (es.getD i default).val) ∧
      (done = false → seen = #[]) ∧ (done = true → ∃ e, es = #[e] ∧ seen = #[e.born]))
  | .lp tmps nt params assign body fn st pending => ∃ l r, ρ o = some (.func (.yield l) #[] #[]) ∧ w.heap[l]? = some (.loop r) ∧ LoopIs M ρ G tmps nt params assign body fn st pending r
def Obj.live : Obj → Bool
  | .gone => false
  | _ => true
structure Inv (Q : Nat → Prop) (w : World) (M : Mem) (ρ : Ref) (G : Nat → Obj) (nx : Nat) : Prop where
  mem : ∀ b o, M b = some o → w.heap[b]? = some o
  obj : ∀ o, ObjOK w M ρ G o
  free : ∀ o, nx ≤ o → ρ o = none
  gone : ∀ o, ρ o = none → G o = .gone
  sep : ∀ o o' v v' b, (G o).live = true → (G o').live = true → ρ o = some v → ρ o' = some v' → blk v = some b → blk v' = some b → o = o'
  own : ∀ o v b, (G o).live = true → (G o).frozen = false → ρ o = some v → blk v = some b → M b = none ∧ Q b
  new : ∀ b, w.heap.size ≤ b → Q b
structure WS (Q : Nat → Prop) (w w' : World) : Prop where
  os : w'.os = w.os
  tape : w'.tape = w.tape
  output : w'.output = w.output
  size : w.heap.size ≤ w'.heap.size
  block : ∀ b, ¬ Q b → w'.heap[b]? = w.heap[b]?
theorem WS.refl (Q : Nat → Prop) (w : World) : WS Q w w := ⟨rfl, rfl, rfl, Nat.le_refl _, fun _ _ => rfl⟩
theorem WS.trans {Q : Nat → Prop} {a b c : World} (h : WS Q a b) (k : WS Q b c) : WS Q a c :=
  ⟨k.os.trans h.os, k.tape.trans h.tape, k.output.trans h.output, Nat.le_trans h.size k.size, fun i hi => (k.block i hi).trans (h.block i hi)⟩
end Go.Abs

/- The abstract interpreter: how its relation to the machine is kept. -/
namespace Go.Abs
variable {M M' : Mem} {ρ ρ' : Ref} {G G' : Nat → Obj} {w w' : World} {nx : Nat} {Q : Nat → Prop}
theorem VL.imp {α : Type} {P P' : α → Value → Prop} {l : List α} {vs : Array Value} (h : VL P l vs) (hp : ∀ x v, P x v → P' x v) : VL P' l vs :=
  ⟨h.1, fun i x hx => hp _ _ (h.2 i x hx)⟩
theorem Mem.ne (h : M.le M') {b : Nat} (hb : M b ≠ none) : M' b ≠ none := by
  cases e : M b with
  | none => exact absurd e hb
  | some o => rw [h b o e]; simp
theorem ownsRow_heap {base n sz : Nat} {et : TypeId} {v : Value} {cs : List Value} (h : w.ownsRow base et sz v n cs) (hw : ∀ b, blk v = some b → w'.heap[b]? = w.heap[b]?) : w'.ownsRow base et sz v n cs := by
  refine ⟨h.1, ?_⟩
  rcases h.2 with h | ⟨g, cap, cur, rfl, h1, h2, h3⟩
  · exact .inl h
  · exact .inr ⟨g, cap, cur, rfl, h1, (hw g rfl).trans h2, h3⟩
theorem RowIs.mono {sz : Nat} {xs : List AV} {cs : List Value} (h : RowIs M ρ G sz xs cs) (hv : Ev M ρ G M' ρ' G') : RowIs M' ρ' G' sz xs cs :=
  ⟨h.fit, fun i x j y hx hy => (h.cell i x j y hx hy).mono hv⟩
theorem ObjOK.mono {o : Nat} (h : ObjOK w M ρ G o) (hG : G' o = G o) (hr : ρ' o = ρ o) (hv : Ev M ρ G M' ρ' G')
    (hw : ∀ v b, ρ o = some v → blk v = some b → w'.heap[b]? = w.heap[b]?) : ObjOK w' M' ρ' G' o := by
  have hm := hv.mem
  unfold ObjOK at *
  rw [hG, hr]
  cases e : G o with
  | gone => trivial
  | box cs fr =>
    rw [e] at h
    obtain ⟨b, vs, e', h1, h2, h3, h4⟩ := h
    exact ⟨b, vs, e', h1, (hw _ b h1 rfl).trans h2, h3.imp fun _ _ => VA.mono hv, fun hf => Mem.ne hm (h4 hf)⟩
  | row et sz xs fr =>
    rw [e] at h
    obtain ⟨h0, v, cs, h1, h2, h3, h4⟩ := h
    exact ⟨h0, v, cs, h1, ownsRow_heap h2 (hw v · h1), h3.mono hv, fun hf b hb => Mem.ne hm (h4 hf b hb)⟩
  | mp ks vs fr =>
    rw [e] at h
    obtain ⟨b, es, clk, h1, h2, h3, h4, h5, h6, h7, h8⟩ := h
    exact ⟨b, es, clk, h1, (hw _ b h1 rfl).trans h2, h3, h4, fun i x hx => (h5 i x hx).mono hm, fun i x hx => (h6 i x hx).mono hv, fun hf => Mem.ne hm (h7 hf), h8⟩
  | it ks vs done =>
    rw [e] at h
    obtain ⟨r, h1, h2⟩ := h
    refine ⟨r, h1, ?_⟩
    rw [hw _ r h1 rfl]
    rcases h2 with h2 | ⟨bm, es, clk, seen, h2, h3, h4, h6, h7, h8, h9, h10, h11⟩
    · exact .inl h2
    · exact .inr ⟨bm, es, clk, seen, h2, hm _ _ h3, h4, h6, h7, h8, fun i x hx => (h9 i x hx).mono hm, fun i x hx => (h10 i x hx).mono hm, h11⟩
  | lp tmps nt params assign body fn st pending =>
    rw [e] at h
    obtain ⟨l, r, h1, h2, h3⟩ := h
    exact ⟨l, r, h1, (hw _ l h1 rfl).trans h2, { h3 with tmps := fun t => (h3.tmps t).mono hv }⟩
theorem Inv.lt (h : Inv Q w M ρ G nx) {o b : Nat} {v : Value} (hl : (G o).live = true) (hv : ρ o = some v) (hb : blk v = some b) : b < w.heap.size := by
  have := h.obj o
  unfold ObjOK at this
  cases e : G o with
  | gone => rw [e] at hl; simp [Obj.live] at hl
  | box cs fr =>
    rw [e] at this
    obtain ⟨b', vs, e', h1, h2, _⟩ := this
    rw [hv] at h1; cases h1; simp [blk] at hb; subst hb
    exact (Array.getElem?_eq_some_iff.1 h2).1
  | row et sz xs fr =>
    rw [e] at this
    obtain ⟨_, v', cs, h1, h2, _⟩ := this
    rw [hv] at h1; cases h1
    rcases h2.2 with ⟨rfl, _⟩ | ⟨g, cap, cur, rfl, _, h3, _⟩
    · simp [blk] at hb
    · simp [blk] at hb; subst hb; exact (Array.getElem?_eq_some_iff.1 h3).1
  | mp ks vs fr =>
    rw [e] at this
    obtain ⟨b', es, clk, h1, h2, _⟩ := this
    rw [hv] at h1; cases h1; simp [blk] at hb; subst hb
    exact (Array.getElem?_eq_some_iff.1 h2).1
  | it ks vs done =>
    rw [e] at this
    obtain ⟨r, h1, h2⟩ := this
    rw [hv] at h1; cases h1; simp [blk] at hb; subst hb
    rcases h2 with ⟨h2, _⟩ | ⟨_, _, _, _, h2, _⟩
    · exact (Array.getElem?_eq_some_iff.1 h2).1
    · exact (Array.getElem?_eq_some_iff.1 h2).1
  | lp tmps nt params assign body fn st pending =>
    rw [e] at this
    obtain ⟨l, r, h1, h2, _⟩ := this
    rw [hv] at h1; cases h1; simp [blk] at hb; subst hb
    exact (Array.getElem?_eq_some_iff.1 h2).1
theorem Inv.put (h : Inv Q w M ρ G nx) {q : Nat} {x : Obj} {r : Value} (hq : q < nx) (hv : Ev M ρ G M (upd ρ q (some r)) (upd G q x))
    (hw : ∀ b, w'.heap[b]? = w.heap[b]? ∨ w.heap.size ≤ b ∨ ((G q).live = true ∧ (G q).frozen = false ∧ ∃ v, ρ q = some v ∧ blk v = some b))
    (hsz : w.heap.size ≤ w'.heap.size) (hx : ObjOK w' M (upd ρ q (some r)) (upd G q x) q)
    (hb : ∀ b, blk r = some b → w.heap.size ≤ b ∨ ((G q).live = true ∧ (G q).frozen = false ∧ ∃ v, ρ q = some v ∧ blk v = some b))
    :
    Inv Q w' M (upd ρ q (some r)) (upd G q x) nx := by
  have hout : ∀ o v b, o ≠ q → (G o).live = true → ρ o = some v → blk v = some b → w'.heap[b]? = w.heap[b]? := by
    intro o v b hne hl hv hb
    rcases hw b with h1 | h1 | ⟨hlq, _, v', hv', hb'⟩
    · exact h1
    · have := h.lt hl hv hb; omega
    · exact absurd (h.sep o q v v' b hl hlq hv hv' hb hb') hne
  refine ⟨fun b o hm => ?_, fun o => ?_, fun o ho => ?_, fun o ho => ?_, ?_, ?_, fun b hb => h.new b (by omega)⟩
  · have hb := h.mem b o hm
    rcases hw b with h1 | h1 | ⟨hlq, hfq, v', hv', hb'⟩
    · rw [h1]; exact hb
    · have := (Array.getElem?_eq_some_iff.1 hb).1; omega
    · have := (h.own q v' b hlq hfq hv' hb').1; rw [hm] at this; cases this
  · by_cases hoq : o = q
    · subst hoq; exact hx
    · by_cases hl : (G o).live = true
      · exact (h.obj o).mono (by simp [upd, hoq]) (by simp [upd, hoq]) hv (fun v b hv' hb' => hout o v b hoq hl hv' hb')
      · have : G o = .gone := by cases e : G o <;> simp_all [Obj.live]
        unfold ObjOK; simp [upd, hoq, this]
  · simp only [upd]; rw [if_neg (by omega)]; exact h.free o ho
  · by_cases hoq : o = q
    · subst hoq; simp [upd] at ho
    · simp only [upd, if_neg hoq] at ho ⊢; exact h.gone o ho
  · intro o o' v v' b hl hl' hv1 hv2 hb1 hb2
    by_cases ho : o = q
    · by_cases ho' : o' = q
      · rw [ho, ho']
      · exfalso
        subst ho
        simp only [upd, if_true, Option.some.injEq] at hv1
        subst hv1
        simp only [upd, if_neg ho'] at hl' hv2
        rcases hb b hb1 with h1 | ⟨h1, _, v0, h2, h3⟩
        · have := h.lt hl' hv2 hb2; omega
        · exact ho' (h.sep o' o v' v0 b hl' h1 hv2 h2 hb2 h3)
    · by_cases ho' : o' = q
      · exfalso
        subst ho'
        simp only [upd, if_true, Option.some.injEq] at hv2
        subst hv2
        simp only [upd, if_neg ho] at hl hv1
        rcases hb b hb2 with h1 | ⟨h1, _, v0, h2, h3⟩
        · have := h.lt hl hv1 hb1; omega
        · exact ho (h.sep o o' v v0 b hl h1 hv1 h2 hb1 h3)
      · simp only [upd, if_neg ho] at hl hv1
        simp only [upd, if_neg ho'] at hl' hv2
        exact h.sep o o' v v' b hl hl' hv1 hv2 hb1 hb2
  · intro o v b hl hfr hv1 hb1
    by_cases ho : o = q
    · subst ho
      simp only [upd, if_true, Option.some.injEq] at hv1
      subst hv1
      rcases hb b hb1 with h1 | ⟨h1, h1', v0, h2, h3⟩
      · refine ⟨?_, h.new b h1⟩
        cases e : M b with
        | none => rfl
        | some x' => have := (Array.getElem?_eq_some_iff.1 (h.mem b x' e)).1; omega
      · exact h.own o v0 b h1 h1' h2 h3
    · simp only [upd, if_neg ho] at hl hfr hv1
      exact h.own o v b hl hfr hv1 hb1
theorem Inv.world (h : Inv Q w M ρ G nx) (hw : ∀ b, b < w.heap.size → w'.heap[b]? = w.heap[b]?) (hsz : w.heap.size ≤ w'.heap.size) : Inv Q w' M ρ G nx := by
  refine ⟨fun b o hm => ?_, fun o => ?_, h.free, h.gone, h.sep, h.own, fun b hb => h.new b (by omega)⟩
  · have := h.mem b o hm
    rw [hw b (Array.getElem?_eq_some_iff.1 this).1]; exact this
  · by_cases hl : (G o).live = true
    · exact (h.obj o).mono rfl rfl (Ev.refl _ _ _) fun v b hv hb => hw b (h.lt hl hv hb)
    · have : G o = .gone := by cases e : G o <;> simp_all [Obj.live]
      unfold ObjOK; rw [this]; trivial
theorem WS.alloc (h : ∀ b, w.heap.size ≤ b → Q b) (o : Go.Obj) : WS Q w (w.alloc o) :=
  ⟨rfl, rfl, rfl, by simp, fun b hb => by
    have : b < w.heap.size := by
      rcases Nat.lt_or_ge b w.heap.size with h1 | h1
      · exact h1
      · exact absurd (h b h1) hb
    exact Go.RowKit.Below.heap_alloc w o b this⟩
theorem Ev.new {q : Nat} {x : Obj} {r : Value} (hq : ρ q = none) : Ev M ρ G M (upd ρ q (some r)) (upd G q x) := by
  refine ⟨Mem.le_refl M, fun o v h => .inl ?_, fun o hb et sz xs fr h => ?_⟩
  · have : o ≠ q := fun e => by subst e; rw [hq] at h; cases h
    simp [upd, this, h]
  · have : o ≠ q := fun e => by subst e; exact hb hq
    simp only [upd, if_neg this] at h ⊢
    exact ⟨xs, fr, h, Nat.le_refl _, fun _ => trivial⟩
theorem Ev.same {q : Nat} {x : Obj} {r : Value} (hq : ρ q = some r) (hx : ∀ et sz xs fr, x = .row et sz xs fr → ∃ xs0 fr0, G q = .row et sz xs0 fr0 ∧ xs0.length = xs.length) :
    Ev M ρ G M (upd ρ q (some r)) (upd G q x) := by
  have e : upd ρ q (some r) = ρ := by funext o; by_cases h : o = q <;> simp [upd, h, hq]
  rw [e]
  refine ⟨Mem.le_refl M, fun o v h => .inl h, fun o hb et sz xs fr h => ?_⟩
  by_cases ho : o = q
  · subst ho
    simp only [upd, if_true] at h
    obtain ⟨xs0, fr0, h1, h2⟩ := hx et sz xs fr h
    exact ⟨xs0, fr0, h1, by omega, fun _ => rfl⟩
  · simp only [upd, if_neg ho] at h
    exact ⟨xs, fr, h, Nat.le_refl _, fun _ => rfl⟩
end Go.Abs

/- The abstract interpreter: values, types, operands. -/
namespace Go.Abs
variable {M M' : Mem} {ρ ρ' : Ref} {G G' : Nat → Obj} {w w' : World} {nx : Nat} {Q : Nat → Prop} {P : Program}
/-! ### cells -/
theorem VI.cells {x : IV} {v : Value} (h : VI M x v) : VL (VI M) x.cells v.cells := by
  cases h with
  | agg xs vs h hl => exact ⟨h, hl⟩
  | _ =>
    refine ⟨rfl, fun i y hy => ?_⟩
    cases i with
    | zero => simp [IV.cells] at hy; subst hy; simp only [at_, Value.cells]; first | exact .bool _ | exact .int _ _ | exact .str _ | exact .nil | exact .empty _ _ _ | constructor <;> assumption
    | succ i => simp [IV.cells] at hy
theorem VA.one {x : AV} {v : Value} (h : VA M ρ G x v) (h1 : x.one = true) : v.oneCell' = true := by
  cases h with
  | imm x v h => cases h <;> first | rfl | simp [AV.one] at h1
  | undef => simp [AV.one] at h1
  | agg => simp [AV.one] at h1
  | tup => simp [AV.one] at h1
  | _ => rfl
theorem AV.fits_len {x : AV} {n : Nat} (h : x.fits n = true) : x.cells.length = n := by simp [AV.fits] at h; exact h.1
theorem AV.fits_one {x : AV} {n : Nat} (h : x.fits n = true) : ∀ y ∈ x.cells, y.one = true := by simp [AV.fits] at h; exact h.2
theorem VA.cells {x : AV} {v : Value} (h : VA M ρ G x v) {n : Nat} (hf : x.fits n = true) : VL (VA M ρ G) x.cells v.cells := by
  have h1 := AV.fits_one hf
  cases h with
  | imm x v h =>
    have hc := h.cells
    cases x with
    | agg cs => simp only [AV.cells]; exact ⟨by simpa [IV.cells] using hc.1, fun i y hy => by
        rw [List.getElem?_map] at hy
        cases e : cs[i]? with
        | none => rw [e] at hy; cases hy
        | some z => rw [e] at hy; cases hy; exact .imm _ _ (hc.2 i z e)⟩
    | _ =>
      refine ⟨by simpa [AV.cells, IV.cells] using hc.1, fun i y hy => ?_⟩
      cases i with
      | zero => simp [AV.cells] at hy; subst hy; exact .imm _ _ (hc.2 0 _ (by simp [IV.cells]))
      | succ i => simp [AV.cells] at hy
  | undef => simp [AV.cells, AV.one] at h1
  | agg xs vs h hl => exact ⟨h, hl⟩
  | tup xs vs h hl => simp [AV.cells, AV.one] at h1
  | nils => exact ⟨rfl, fun i y hy => by cases i with
      | zero => simp [AV.cells] at hy; subst hy; exact .nils
      | succ i => simp [AV.cells] at hy⟩
  | ptr o off b h => exact ⟨rfl, fun i y hy => by cases i with
      | zero => simp [AV.cells] at hy; subst hy; exact .ptr o off b h
      | succ i => simp [AV.cells] at hy⟩
  | row o n a l c hb h => exact ⟨rfl, fun i y hy => by cases i with
      | zero => simp [AV.cells] at hy; subst hy; exact .row o n a l c hb h
      | succ i => simp [AV.cells] at hy⟩
  | rptr o n i off b f hb h => exact ⟨rfl, fun i y hy => by cases i with
      | zero => simp [AV.cells] at hy; subst hy; exact .rptr o n _ off b f hb h
      | succ i => simp [AV.cells] at hy⟩
  | map o b h => exact ⟨rfl, fun i y hy => by cases i with
      | zero => simp [AV.cells] at hy; subst hy; exact .map o b h
      | succ i => simp [AV.cells] at hy⟩
  | yld o l h => exact ⟨rfl, fun i y hy => by cases i with
      | zero => simp [AV.cells] at hy; subst hy; exact .yld o l h
      | succ i => simp [AV.cells] at hy⟩
  | fn f cap vs h hl => exact ⟨rfl, fun i y hy => by cases i with
      | zero => simp [AV.cells] at hy; subst hy; exact .fn f cap vs h hl
      | succ i => simp [AV.cells] at hy⟩
theorem VL.one {l : List AV} {vs : Array Value} (h : VL (VA M ρ G) l vs) (h1 : ∀ y ∈ l, y.one = true) : ∀ v ∈ vs, v.oneCell' = true := by
  intro v hv
  obtain ⟨i, hi, rfl⟩ := Array.mem_iff_getElem.1 hv
  have hl : i < l.length := by rw [h.1]; exact hi
  have := h.2 i l[i] (List.getElem?_eq_getElem hl)
  have e : at_ vs i = vs[i] := by simp [at_, Array.getD_eq_getD_getElem?, hi]
  rw [e] at this
  exact this.one (h1 _ (List.getElem_mem hl))
theorem VA.imm_inv {x : IV} {c : Value} (h : VA M ρ G (.imm x) c) : VI M x c := by cases h with | imm _ _ h => exact h
theorem VA.int_inv {k : IntKind} {n : Int} {c : Value} (h : VA M ρ G (.imm (.int k n)) c) : c = .int k n := by have h := h.imm_inv; cases h; rfl
theorem VA.bool_inv {b : Bool} {c : Value} (h : VA M ρ G (.imm (.bool b)) c) : c = .bool b := by have h := h.imm_inv; cases h; rfl
theorem VA.str_inv {s : ByteArray} {c : Value} (h : VA M ρ G (.imm (.str s)) c) : c = .string s := by have h := h.imm_inv; cases h; rfl
theorem allImm_some {cs : List AV} {l : List IV} (h : allImm cs = some l) : cs = l.map .imm := by
  induction cs generalizing l with
  | nil => simp [allImm] at h; subst h; rfl
  | cons v r ih =>
    cases v <;> simp only [allImm, Option.map_eq_some_iff, reduceCtorEq] at h
    obtain ⟨a, ha, rfl⟩ := h
    rw [ih ha]; rfl
theorem VL_imm {l : List IV} {vs : Array Value} (h : VL (VA M ρ G) (l.map .imm) vs) : VL (VI M) l vs := by
  refine ⟨by simpa using h.1, fun i x hx => ?_⟩
  have := h.2 i (.imm x) (by simp [hx])
  cases this; assumption
theorem VA_mkAgg {cs : List AV} {vs : Array Value} (h : VL (VA M ρ G) cs vs) : VA M ρ G (mkAgg cs) (.agg vs) := by
  unfold mkAgg
  cases e : allImm cs with
  | none => exact .agg cs vs h.1 h.2
  | some l => rw [allImm_some e] at h; have := VL_imm h; exact .imm _ _ (.agg l vs this.1 this.2)
theorem VA_mkTup {cs : List AV} {vs : Array Value} (h : VL (VA M ρ G) cs vs) : VA M ρ G (mkTup cs) (.tuple vs) := by
  unfold mkTup
  cases e : allImm cs with
  | none => exact .tup cs vs h.1 h.2
  | some l => rw [allImm_some e] at h; have := VL_imm h; exact .imm _ _ (.tup l vs this.1 this.2)
theorem VA_mkFn {f : Fn} {cs : List AV} {vs : Array Value} (h : VL (VA M ρ G) cs vs) : VA M ρ G (mkFn f cs) (.func f #[] vs) := by
  unfold mkFn
  cases e : allImm cs with
  | none => exact .fn f cs vs h.1 h.2
  | some l => rw [allImm_some e] at h; have := VL_imm h; exact .imm _ _ (.fn f l vs this.1 this.2)
/-! ### constants -/
theorem VA_cv1 (v : Value) : VA M ρ G (cv1 v) v := by
  unfold cv1
  split
  · exact .imm _ _ (.bool _)
  · exact .imm _ _ (.int _ _)
  · exact .imm _ _ (.str _)
  · exact .nils
  · exact .imm _ _ .nilp
  · exact .imm _ _ .nilmap
  · exact .imm _ _ .nilfn
  · exact .imm _ _ .niliface
  · exact .undef _
theorem at_toList {vs : Array Value} {i : Nat} {z : Value} (e : vs.toList[i]? = some z) : at_ vs i = z := by
  have e' : vs[i]? = some z := by rw [← Array.getElem?_toList]; exact e
  simp [at_, Array.getD_eq_getD_getElem?, e']
theorem VL_cv1 (vs : Array Value) : VL (VA M ρ G) (vs.toList.map cv1) vs := by
  refine ⟨by simp, fun i x hx => ?_⟩
  rw [List.getElem?_map] at hx
  cases e : vs.toList[i]? with
  | none => rw [e] at hx; cases hx
  | some z => rw [e] at hx; cases hx; rw [at_toList e]; exact VA_cv1 z
theorem cv_agg (cs : Array Value) : cv (.agg cs) = mkAgg (cs.toList.map cv1) := rfl
theorem cv_other {v : Value} (h : ∀ cs, v ≠ .agg cs) : cv v = cv1 v := by
  cases v <;> first | rfl | exact absurd rfl (h _)
theorem VA_cv (v : Value) : VA M ρ G (cv v) v := by
  by_cases h : ∃ cs, v = .agg cs
  · obtain ⟨cs, rfl⟩ := h
    rw [cv_agg]; exact VA_mkAgg (VL_cv1 cs)
  · rw [cv_other fun cs e => h ⟨cs, e⟩]; exact VA_cv1 v
theorem cells_mkAgg (l : List AV) : (mkAgg l).cells = l := by
  unfold mkAgg
  cases e : allImm l with
  | none => rfl
  | some x => simp only [AV.cells]; exact (allImm_some e).symm
theorem cells_one {a : AV} (h1 : ∀ l, a ≠ .imm (.agg l)) (h2 : ∀ l, a ≠ .agg l) : a.cells = [a] := by
  cases a with
  | imm x => cases x <;> first | rfl | exact absurd rfl (h1 _)
  | agg l => exact absurd rfl (h2 l)
  | _ => rfl
theorem cv1_not (v : Value) : (∀ l, cv1 v ≠ .imm (.agg l)) ∧ (∀ l, cv1 v ≠ .agg l) := by
  unfold cv1
  split <;> exact ⟨fun l => by simp, fun l => by simp⟩
theorem cells_cv (v : Value) : (cv v).cells.length = v.cells.size ∧ VL (VA M ρ G) (cv v).cells v.cells := by
  by_cases h : ∃ cs, v = .agg cs
  · obtain ⟨cs, rfl⟩ := h
    rw [cv_agg, cells_mkAgg]; exact ⟨by simp [Value.cells], VL_cv1 cs⟩
  · have hn : ∀ cs, v ≠ .agg cs := fun cs e => h ⟨cs, e⟩
    have hv : v.cells = #[v] := by cases v <;> first | rfl | exact absurd rfl (hn _)
    rw [cv_other hn, cells_one (cv1_not v).1 (cv1_not v).2, hv]
    refine ⟨rfl, rfl, fun i x hx => ?_⟩
    cases i with
    | zero => simp at hx; subst hx; exact VA_cv1 v
    | succ i => simp at hx
/-! ### operands -/
def evV (arr : Array Value) : Operand → Value
  | .tmp t => arr.getD t Go.undef
  | .const v => v
  | .global g => .pointer (some ⟨g, 0, none⟩)
  | .func f => .func (.func f) #[] #[]
def TR (M : Mem) (ρ : Ref) (G : Nat → Obj) (tmps : Nat → AV) (arr : Array Value) : Prop := ∀ t, VA M ρ G (tmps t) (arr.getD t Go.undef)
theorem TR.ev {tmps : Nat → AV} {arr : Array Value} (h : TR M ρ G tmps arr) (x : Operand) : VA M ρ G (ev tmps x) (evV arr x) := by
  cases x with
  | tmp t => exact h t
  | const v => exact VA_cv v
  | global g => exact .undef _
  | func f => exact .imm _ _ (.fn _ _ _ rfl (fun i x hx => by simp at hx))
theorem TR.mono {tmps : Nat → AV} {arr : Array Value} (h : TR M ρ G tmps arr) (hv : Ev M ρ G M' ρ' G') : TR M' ρ' G' tmps arr := fun t => (h t).mono hv
/-! ### types -/
theorem tyOf_some {t : TypeId} {i : TyI} (h : tyOf P t = some i) :
    ∃ info zv d, P.info? t = some info ∧ P.underlying t = some d ∧ info.zero = some zv ∧ fieldsOk P d = true ∧ i.d = tyd P d ∧ i.sz = info.size ∧ i.bytes = info.bytes ∧ i.zero = cv zv := by
  unfold tyOf at h
  split at h
  · rename_i info d h1 h2
    split at h
    · rename_i zv h3 h4
      cases h
      exact ⟨info, zv, d, h1, h2, h3, h4, rfl, rfl, rfl, rfl⟩
    · cases h
  · cases h
theorem run_typeInfo' {t : TypeId} {info : TypeInfo} (h : P.info? t = some info) : (typeInfo t).run P w = .ok info w := by simp [typeInfo, h]
theorem run_sizeOf' {t : TypeId} {info : TypeInfo} (h : P.info? t = some info) : (sizeOf t).run P w = .ok info.size w := by simp [sizeOf, run_typeInfo' h]
theorem run_underlying' {t : TypeId} {d : TypeDesc} (h : P.underlying t = some d) : (underlying t).run P w = .ok d w := by simp [underlying, h]
theorem run_zeroValue' {t : TypeId} {info : TypeInfo} {v : Value} (h : P.info? t = some info) (hz : info.zero = some v) : (zeroValue t).run P w = .ok v w := by simp [zeroValue, run_typeInfo' h, hz]
theorem run_isAgg' {t : TypeId} {d : TypeDesc} (h : P.underlying t = some d) : (isAgg t).run P w = .ok (tyd P d).isAgg w := by
  simp only [isAgg, Sem.run_bind, run_underlying' h, Result.andThen_ok]
  cases d <;> rfl
end Go.Abs

/- The abstract interpreter: reading. -/
namespace Go.Abs
variable {M M' : Mem} {ρ ρ' : Ref} {G G' : Nat → Obj} {w w' : World} {nx : Nat} {Q : Nat → Prop} {P : Program}
theorem sub_some {α : Type} {l : List α} {off n : Nat} {cs : List α} (h : sub l off n = some cs) : off + n ≤ l.length ∧ cs = (l.drop off).take n := by
  unfold sub at h
  split at h
  · cases h; exact ⟨by assumption, rfl⟩
  · cases h
theorem sub_get {α : Type} {l : List α} {off n : Nat} {cs : List α} (h : sub l off n = some cs) : off + n ≤ l.length ∧ cs.length = n ∧ ∀ (j : Nat) y, cs[j]? = some y → j < n ∧ l[off + j]? = some y := by
  obtain ⟨h1, rfl⟩ := sub_some h
  refine ⟨h1, by simp; omega, fun j y hy => ?_⟩
  have hj : j < n := by
    have := (List.getElem?_eq_some_iff.1 hy).1
    simp at this; omega
  rw [List.getElem?_take, if_pos hj, List.getElem?_drop] at hy
  exact ⟨hj, hy⟩
def CellsAt (w : World) (M : Mem) (ρ : Ref) (G : Nat → Obj) (cs : List AV) (b off : Nat) : Prop :=
  ∃ vs e fr, w.heap[b]? = some (.cells vs e fr) ∧ off + cs.length ≤ vs.size ∧ ∀ (j : Nat) y, cs[j]? = some y → VA M ρ G y (at_ vs (off + j))
theorem list_getD_take {l : List Value} {n i : Nat} (h : i < n) : (l.take n).getD i Go.undef = l.getD i Go.undef := by
  simp [List.getD_eq_getElem?_getD, h]
theorem at_list (vs : Array Value) (i : Nat) : vs.toList.getD i Go.undef = at_ vs i := by
  simp [at_, List.getD_eq_getElem?_getD, Array.getD_eq_getD_getElem?]
theorem imm_get {l : List IV} {j : Nat} {y : AV} (h : (l.map AV.imm)[j]? = some y) : ∃ z, y = .imm z ∧ l[j]? = some z := by
  rw [List.getElem?_map] at h
  cases e : l[j]? with
  | none => rw [e] at h; cases h
  | some z => rw [e] at h; cases h; exact ⟨z, rfl, rfl⟩
theorem row_block {et : TypeId} {sz : Nat} {xs : List AV} {fr : Bool} {q : Nat} (hI : Inv Q w M ρ G nx) (hG : G q = .row et sz xs fr) {b l c : Nat} (hr : ρ q = some (.slice (some ⟨b, 0, none⟩) l c)) :
    l = xs.length ∧ 0 < sz ∧ l ≤ c ∧ c ≤ maxLen ∧ ∃ cur, w.heap[b]? = some (.cells cur et (0, 0)) ∧ cur.size = c * sz ∧ (∀ x ∈ xs, x.fits sz = true) ∧
      ∀ (i : Nat) x (j : Nat) y, xs[i]? = some x → x.cells[j]? = some y → VA M ρ G y (at_ cur (i * sz + j)) := by
  have := hI.obj q
  unfold ObjOK at this
  rw [hG] at this
  obtain ⟨h0, v, cs, h1, h2, h3, h4⟩ := this
  rw [hr] at h1; cases h1
  rcases h2.2 with ⟨h, _⟩ | ⟨g, cap, cur, h, _, h5, h6, h7, h8, h9⟩
  · cases h
  · cases h
    refine ⟨rfl, h0, h6, h7, cur, h5, h8, h3.fit, fun i x j y hx hy => ?_⟩
    have hi := (List.getElem?_eq_some_iff.1 hx).1
    have hj := (List.getElem?_eq_some_iff.1 hy).1
    have hl := AV.fits_len (h3.fit x (List.mem_of_getElem? hx))
    have hlt : i * sz + j < xs.length * sz := by
      have : i * sz + sz ≤ xs.length * sz := by rw [← Nat.succ_mul]; exact Nat.mul_le_mul_right _ hi
      omega
    have := h3.cell i x j y hx hy
    rw [← h9, list_getD_take hlt, at_list] at this
    exact this
theorem readAt_ok {n : Nat} {a : AV} {c : Value} {cs : List AV} (h : readAt G n a = some cs) (hI : Inv Q w M ρ G nx) (ha : VA M ρ G a c) :
    cs.length = n ∧ ∃ b off, c = .pointer (some ⟨b, off, none⟩) ∧ CellsAt w M ρ G cs b off := by
  cases a with
  | ptr o off =>
    simp only [readAt] at h
    split at h
    · rename_i bs fr e
      obtain ⟨h1, h2, h3⟩ := sub_get h
      cases ha with
      | ptr _ _ b hr =>
        have := hI.obj o
        unfold ObjOK at this
        rw [e] at this
        obtain ⟨b', vs, e', g1, g2, g3, _⟩ := this
        rw [hr] at g1; cases g1
        refine ⟨h2, b, off, rfl, vs, e', _, g2, by rw [h2, ← g3.1]; exact h1, fun j y hy => ?_⟩
        exact g3.2 _ _ (h3 j y hy).2
    · cases h
  | rptr o m i off =>
    simp only [readAt] at h
    split at h
    · rename_i et sz xs fr e
      split at h
      · rename_i hm
        split at h
        · rename_i x hx
          obtain ⟨h1, h2, h3⟩ := sub_get h
          cases ha with
          | rptr _ _ _ _ b f hb hr1 =>
            obtain ⟨_, hr2⟩ := hr1 et sz xs fr e
            obtain ⟨l, c, hr3, rfl⟩ := hr2 hm.symm
            obtain ⟨rfl, h0, _, _, cur, g1, g2, g3, g4⟩ := row_block hI e hr3
            have hl := AV.fits_len (g3 x (List.mem_of_getElem? hx))
            have hi := (List.getElem?_eq_some_iff.1 hx).1
            refine ⟨h2, b, _, rfl, cur, et, _, g1, ?_, fun j y hy => ?_⟩
            · have h5 : i * sz + sz ≤ xs.length * sz := by rw [← Nat.succ_mul]; exact Nat.mul_le_mul_right _ hi
              have h6 : xs.length * sz ≤ c * sz := Nat.mul_le_mul_right _ (by omega)
              rw [h2]; omega
            · have := g4 i x (off + j) y hx (h3 j y hy).2
              rw [show i * sz + off + j = i * sz + (off + j) by omega]; exact this
        · cases h
      · cases h
    · cases h
  | imm x =>
    cases ha with
    | imm _ _ hv =>
    cases x with
    | fptr bs off =>
      simp only [readAt, Option.map_eq_some_iff] at h
      obtain ⟨l, h, rfl⟩ := h
      obtain ⟨h1, h2, h3⟩ := sub_get h
      cases hv with
      | fptr _ _ b vs e fr o0 hM hz hl =>
        refine ⟨by simpa using h2, b, _, rfl, vs, e, fr, hI.mem _ _ hM, by simp; omega, fun j y hy => ?_⟩
        obtain ⟨z, rfl, hz⟩ := imm_get hy
        have := hl _ _ (h3 j z hz).2
        rw [show o0 + off + j = o0 + (off + j) by omega]
        exact .imm _ _ this
    | eptr xs i off =>
      simp only [readAt] at h
      split at h
      · rename_i x hx
        simp only [Option.map_eq_some_iff] at h
        obtain ⟨l, h, rfl⟩ := h
        obtain ⟨h1, h2, h3⟩ := sub_get h
        cases hv with
        | eptr _ _ _ b vs e fr o0 sz hM hs hz1 hz2 hl =>
          have hi := (List.getElem?_eq_some_iff.1 hx).1
          have hxl := hz1 i x hx
          have h5 : i * sz + sz ≤ xs.length * sz := by rw [← Nat.succ_mul]; exact Nat.mul_le_mul_right _ hi
          refine ⟨by simpa using h2, b, _, rfl, vs, e, fr, hI.mem _ _ hM, by simp; omega, fun j y hy => ?_⟩
          obtain ⟨z, rfl, hz⟩ := imm_get hy
          have := hl i x (off + j) z hx (h3 j z hz).2
          rw [show o0 + i * sz + off + j = o0 + i * sz + (off + j) by omega]
          exact .imm _ _ this
      · cases h
    | _ => simp [readAt] at h
  | _ => simp [readAt] at h
theorem add_none (b off n : Nat) : (⟨b, off, none⟩ : Addr).add n = ⟨b, off + n, none⟩ := Addr.add_lit b off n
theorem cell_at {w : World} {b i : Nat} {vs : Array Value} {e : TypeId} {fr : Nat × Nat} (hg : w.heap[b]? = some (.cells vs e fr)) (hi : i < vs.size) : w.cell? ⟨b, i, none⟩ = some (at_ vs i) := by
  rw [cell_of_row w b i vs e fr hg]
  simp [at_, Array.getD_eq_getD_getElem?, hi]
theorem loadVar_ok {t : TypeId} {i : TyI} {cs : List AV} {b off : Nat} (ht : tyOf P t = some i) (hc : CellsAt w M ρ G cs b off) (hn : cs.length = i.sz) (h1c : i.d.isAgg = false → ∃ v, cs = [v]) :
    ∃ u, (loadVar t ⟨b, off, none⟩).run P w = .ok u w ∧ (if i.d.isAgg then VA M ρ G (mkAgg cs) u else ∀ v, cs = [v] → VA M ρ G v u) := by
  obtain ⟨info, zv, d, h1, h2, h3, _, h4, h5, _⟩ := tyOf_some ht
  obtain ⟨vs, e, fr, g1, g2, g3⟩ := hc
  have hld : (loadCells ⟨b, off, none⟩ info.size).run P w = .ok ((List.range info.size).map fun j => at_ vs (off + j)).toArray w :=
    run_loadCells w ⟨b, off, none⟩ info.size _ fun j hj => by rw [add_none]; exact cell_at g1 (by omega)
  simp only [loadVar, Sem.run_bind, run_isAgg' h2, Result.andThen_ok, ← h4]
  cases hag : i.d.isAgg with
  | true =>
    simp only [if_true, Sem.run_bind, run_sizeOf' h1, Result.andThen_ok, hld, Sem.run_pure]
    refine ⟨_, rfl, VA_mkAgg ⟨by simp; omega, fun j y hy => ?_⟩⟩
    have hj := (List.getElem?_eq_some_iff.1 hy).1
    have : at_ ((List.range info.size).map fun j => at_ vs (off + j)).toArray j = at_ vs (off + j) := by
      apply at_toList; simp [List.getElem?_range (show j < info.size by omega)]
    rw [this]; exact g3 j y hy
  | false =>
    simp only [Bool.false_eq_true, if_false]
    obtain ⟨v0, rfl⟩ := h1c hag
    have h0 : off < vs.size := by simp at g2; omega
    refine ⟨at_ vs off, by rw [run_load, cell_at g1 h0], fun v hv => ?_⟩
    cases hv
    exact g3 0 v0 rfl
/-! ### writing -/
theorem aLoad_ok {t : TypeId} {a v : AV} {c : Value} {ups : List (Nat × U)} {C : Cfg} (h : aLoad C G t a = some (.val v ups)) (hI : Inv Q w M ρ G nx) (ha : VA M ρ G a c) :
    ups = [] ∧ ∃ u, (Instr.loadAt t c).run C.P w = .ok u w ∧ VA M ρ G v u := by
  unfold aLoad at h
  split at h
  · rename_i i hi
    split at h
    · rename_i cs hcs
      obtain ⟨hn, b, off, rfl, hc⟩ := readAt_ok hcs hI ha
      have hl : ∀ (hone : i.d.isAgg = false → ∃ v, cs = [v]), ∃ u, (Instr.loadAt t (.pointer (some ⟨b, off, none⟩))).run C.P w = .ok u w ∧ (if i.d.isAgg then VA M ρ G (mkAgg cs) u else ∀ v, cs = [v] → VA M ρ G v u) := by
        intro hone
        obtain ⟨u, h1, h2⟩ := loadVar_ok (P := C.P) hi hc hn hone
        exact ⟨u, by simp [Instr.loadAt, Instr.sureAddr, h1], h2⟩
      split at h
      · rename_i hag
        cases h
        obtain ⟨u, h1, h2⟩ := hl (fun e => by rw [hag] at e; cases e)
        rw [if_pos hag] at h2
        exact ⟨rfl, u, h1, h2⟩
      · rename_i hag
        split at h
        · rename_i v'
          cases h
          obtain ⟨u, h1, h2⟩ := hl (fun _ => ⟨_, rfl⟩)
          rw [if_neg hag] at h2
          exact ⟨rfl, u, h1, h2 _ rfl⟩
        · cases h
    · cases h
  · cases h
end Go.Abs
