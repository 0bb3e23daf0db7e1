/- The abstract interpreter: a logic of what code comes to, by what is known of its temporaries. -/
import Derived.Test.YtpkmljhdaijanaaAbsMono
namespace Go.Abs

abbrev Env := List (Nat × AV)

def look : Env → Nat → Option AV
  | [], _ => none
  | (j, v) :: r, i => match Nat.beq i j with
    | true => some v
    | false => look r i

def lookC : Value → Option AV
  | .bool b => some (.imm (.bool b))
  | .int k n => some (.imm (.int k n))
  | .string s => some (.imm (.str s))
  | .slice none 0 0 => some .nils
  | .pointer none => some (.imm .nilp)
  | .map none => some (.imm .nilmap)
  | .nilFunc => some (.imm .nilfn)
  | .nilIface => some (.imm .niliface)
  | v => some (cv v)

def lookO (l : Env) : Operand → Option AV
  | .tmp t => look l t
  | .const v => lookC v
  | .func f => some (.imm (.fn (.func f) []))
  | .global _ => none

def looks (l : Env) : List Operand → Option (List AV)
  | [] => some []
  | x :: r => match lookO l x with
    | some v => match looks l r with
      | some vs => some (v :: vs)
      | none => none
    | none => none

def Agree (t : Nat → AV) (l : Env) : Prop := ∀ i v, look l i = some v → t i = v

theorem lookC_cv {c : Value} {v : AV} (h : lookC c = some v) : cv c = v := by
  unfold lookC at h
  split at h <;> first | (cases h; rfl) | (simp only [Option.some.injEq] at h; exact h)

theorem Agree.ev {t : Nat → AV} {l : Env} (h : Agree t l) {x : Operand} {v : AV} (hx : lookO l x = some v) : Go.Abs.ev t x = v := by
  cases x with
  | tmp i => exact h i v hx
  | const c => exact lookC_cv hx
  | func f => simp only [lookO, Option.some.injEq] at hx; exact hx
  | global g => cases hx

theorem Agree.evs {t : Nat → AV} {l : Env} (h : Agree t l) : ∀ {xs : List Operand} {vs : List AV}, looks l xs = some vs → xs.map (Go.Abs.ev t) = vs
  | [], vs, hx => by cases hx; rfl
  | x :: r, vs, hx => by
    unfold looks at hx
    split at hx
    · rename_i v hv
      split at hx
      · rename_i ws hw
        cases hx
        simp only [List.map_cons, h.ev hv, h.evs hw]
      · cases hx
    · cases hx

theorem Agree.put {t : Nat → AV} {l : Env} (h : Agree t l) (d : Nat) (v : AV) : Agree (upd t d v) ((d, v) :: l) := by
  intro i w hw
  unfold look at hw
  unfold upd
  split at hw
  · rename_i hb
    have : i = d := Nat.eq_of_beq_eq_true hb
    cases hw
    rw [if_pos this]
  · rename_i hb
    have : i ≠ d := fun e => by subst e; rw [Nat.beq_refl] at hb; cases hb
    rw [if_neg this]
    exact h i w hw

/-- Less is known. -/
def Sub (l' l : Env) : Prop := ∀ i v, look l' i = some v → look l i = some v

theorem Sub.nil (l : Env) : Sub [] l := fun _ _ h => by cases h
theorem Sub.cons {l' l : Env} {d : Nat} {v : AV} (h : look l d = some v) (hr : Sub l' l) : Sub ((d, v) :: l') l := by
  intro i w hw
  unfold look at hw
  split at hw
  · rename_i hb
    have : i = d := Nat.eq_of_beq_eq_true hb
    cases hw
    rw [this]; exact h
  · exact hr i w hw
theorem Agree.sub {t : Nat → AV} {l l' : Env} (h : Agree t l) (hs : Sub l' l) : Agree t l' := fun i v hv => h i v (hs i v hv)
theorem Agree.nil (t : Nat → AV) : Agree t [] := fun _ _ h => by cases h

/-! ### what code comes to -/
variable {C : Cfg}

def Wst (C : Cfg) (fid nt : Nat) (b : Code) (s : St) (Φ : Out → Prop) : Prop := ∃ n o, code C (low C n) n fid nt b s = some o ∧ Φ o
structure W (C : Cfg) (fid nt : Nat) (b : Code) (l : Env) (G : Nat → Obj) (nx : Nat) (df : List (AV × List AV)) (pk : Pk) (Φ : Out → Prop) : Prop where
  st : ∀ t, Agree t l → Wst C fid nt b ⟨t, G, nx, df, pk⟩ Φ

/-- One operation after the other. -/
def runL (C : Cfg) (L : Low) (nt : Nat) (ops : Array Oper) (base : Nat) : Nat → List Oper → St → Option Out
  | _, [], s => some (.norm s)
  | i, o :: r, s => match stepA C L nt ops (base + i) o s with
    | some (.norm s') => runL C L nt ops base (i + 1) r s'
    | x => x

theorem runA_eq (C : Cfg) (L : Low) (nt : Nat) (ops : Array Oper) (base : Nat) : ∀ (l : List Oper) (i : Nat) (s : St), ops.toList.drop i = l → runA C L nt ops base (List.range' i l.length) s = runL C L nt ops base i l s
  | [], _, _, _ => rfl
  | o :: r, i, s, h => by
    have h0 : ops[i]? = some o := by
      have := congrArg (fun l => l[0]?) h
      simpa using this
    have h1 : ops.toList.drop (i + 1) = r := by
      have := congrArg List.tail h
      simpa using this
    simp only [List.length_cons, List.range'_succ, runA, h0, runL]
    cases stepA C L nt ops (base + i) o s with
    | none => rfl
    | some x => cases x with
      | norm s' => exact runA_eq C L nt ops base r (i + 1) s' h1
      | _ => rfl

theorem runL_mono {L L' : Low} (h : L.le L') {nt : Nat} {ops : Array Oper} {base : Nat} : ∀ (l : List Oper) (i : Nat) (s : St) {x : Out}, runL C L nt ops base i l s = some x → runL C L' nt ops base i l s = some x
  | [], _, _, _, he => he
  | o :: r, i, s, x, he => by
    unfold runL at he ⊢
    cases hs : stepA C L nt ops (base + i) o s with
    | none => rw [hs] at he; cases he
    | some y =>
      rw [stepA_mono h hs]; rw [hs] at he
      cases y with
      | norm s' => exact runL_mono h r (i + 1) s' he
      | _ => exact he

def Rst (C : Cfg) (nt : Nat) (ol : List Oper) (base i : Nat) (r : List Oper) (s : St) (Φ : Out → Prop) : Prop := ∃ n o, runL C (low C n) nt ⟨ol⟩ base i r s = some o ∧ Φ o
structure R (C : Cfg) (nt : Nat) (ol : List Oper) (base i : Nat) (r : List Oper) (l : Env) (G : Nat → Obj) (nx : Nat) (df : List (AV × List AV)) (pk : Pk) (Φ : Out → Prop) : Prop where
  st : ∀ t, Agree t l → Rst C nt ol base i r ⟨t, G, nx, df, pk⟩ Φ

/-- What is asked of the end of a part with another part behind it. -/
def aft (C : Cfg) (fid nt : Nat) (b : Code) (Φ : Out → Prop) : Out → Prop
  | .norm s => Wst C fid nt b s Φ
  | o => Φ o

def blk' (id : Nat) (Φ : Out → Prop) : Out → Prop
  | .exit id' s => if id' = id then Φ (.norm s) else Φ (.exit id' s)
  | o => Φ o

/-- The head of a loop: something of what is meant by 'x' that is less than before. -/
def lop {X : Type} (le : X → Env) (Ge : X → Nat → (Nat → Obj) → Prop) (mu : X → Nat) (df : List (AV × List AV)) (pk : Pk) (x : X) (Φ : Out → Prop) : Out → Prop
  | .norm s => ∃ x', mu x' < mu x ∧ Agree s.tmps (le x') ∧ Ge x' s.nx s.G ∧ s.defers = df ∧ s.pk = pk
  | o => Φ o

variable {fid nt : Nat} {l : Env} {G : Nat → Obj} {nx : Nat} {df : List (AV × List AV)} {pk : Pk} {Φ Φ' : Out → Prop} {a b : Code}

theorem W.mono (h : W C fid nt b l G nx df pk Φ) (hi : ∀ o, Φ o → Φ' o) : W C fid nt b l G nx df pk Φ' := .mk fun t ht => by
  obtain ⟨n, o, h1, h2⟩ := h.st t ht
  exact ⟨n, o, h1, hi o h2⟩

theorem W.sub {l' : Env} (h : W C fid nt b l' G nx df pk Φ) (hs : Sub l' l) : W C fid nt b l G nx df pk Φ := .mk fun t ht => h.st t (ht.sub hs)

theorem W.seq (h : W C fid nt a l G nx df pk (aft C fid nt b Φ)) : W C fid nt (.seq a b) l G nx df pk Φ := by
  refine .mk fun t ht => ?_
  obtain ⟨n, o, h1, h2⟩ := h.st t ht
  cases o with
  | norm s =>
    obtain ⟨m, o', h3, h4⟩ := h2
    refine ⟨max n m, o', ?_, h4⟩
    unfold code
    rw [code_mono (low_mono (Nat.le_max_left n m)) (Nat.le_max_left n m) _ _ _ h1]
    exact code_mono (low_mono (Nat.le_max_right n m)) (Nat.le_max_right n m) _ _ _ h3
  | _ => exact ⟨n, _, by unfold code; rw [h1], h2⟩

theorem W.region {k : Nat} {ol : List Oper} (h : R C nt ol nx 0 ol l G (nx + ol.length) df pk Φ) : W C fid nt (.region k ⟨ol⟩ false) l G nx df pk Φ := by
  refine .mk fun t ht => ?_
  obtain ⟨n, o, h1, h2⟩ := h.st t ht
  refine ⟨n, o, ?_, h2⟩
  unfold code regionA
  rw [if_neg (by simp)]
  rw [← runA_eq C (low C n) nt ⟨ol⟩ nx ol 0 _ rfl] at h1
  rw [← h1, List.range_eq_range']
  rfl

theorem R.done {ol : List Oper} {base i : Nat} (h : W C fid nt b l G nx df pk Φ) : R C nt ol base i [] l G nx df pk (aft C fid nt b Φ) := .mk fun t ht => ⟨0, _, rfl, h.st t ht⟩
theorem R.last {ol : List Oper} {base i : Nat} (h : ∀ t, Agree t l → Φ (.norm ⟨t, G, nx, df, pk⟩)) : R C nt ol base i [] l G nx df pk Φ := .mk fun t ht => ⟨0, _, rfl, h t ht⟩
theorem R.skip {ol : List Oper} {base i : Nat} (h : W C 0 nt .skip l G nx df pk Φ) : R C nt ol base i [] l G nx df pk Φ := .mk fun t ht => by
  obtain ⟨n, o, h1, h2⟩ := h.st t ht
  cases h1
  exact ⟨n, _, rfl, h2⟩

theorem W.cond {c : Operand} {v : Bool} (hc : lookO l c = some (.imm (.bool v))) (h1 : v = true → W C fid nt a l G nx df pk Φ) (h0 : v = false → W C fid nt b l G nx df pk Φ) : W C fid nt (.cond c a b) l G nx df pk Φ := by
  refine .mk fun t ht => ?_
  have he := ht.ev hc
  cases v with
  | true =>
    obtain ⟨n, o, h1, h2⟩ := (h1 rfl).st t ht
    exact ⟨n, o, by unfold code; simp only [he]; exact h1, h2⟩
  | false =>
    obtain ⟨n, o, h1, h2⟩ := (h0 rfl).st t ht
    exact ⟨n, o, by unfold code; simp only [he]; exact h1, h2⟩

theorem W.condT {c : Operand} {v : Bool} (hc : lookO l c = some (.imm (.bool v))) (hv : v = true) (h1 : W C fid nt a l G nx df pk Φ) : W C fid nt (.cond c a b) l G nx df pk Φ := W.cond hc (fun _ => h1) (fun h => by rw [h] at hv; cases hv)
theorem W.condF {c : Operand} {v : Bool} (hc : lookO l c = some (.imm (.bool v))) (hv : v = false) (h1 : W C fid nt b l G nx df pk Φ) : W C fid nt (.cond c a b) l G nx df pk Φ := W.cond hc (fun h => by rw [h] at hv; cases hv) (fun _ => h1)

theorem W.block {id : Nat} (h : W C fid nt b l G nx df pk (blk' id Φ)) : W C fid nt (.block id b) l G nx df pk Φ := by
  refine .mk fun t ht => ?_
  obtain ⟨n, o, h1, h2⟩ := h.st t ht
  cases o with
  | exit id' s =>
    by_cases hi : id' = id
    · exact ⟨n, .norm s, by unfold code; rw [h1]; simp [hi], by simpa [blk', hi] using h2⟩
    · exact ⟨n, .exit id' s, by unfold code; rw [h1]; simp [hi], by simpa [blk', hi] using h2⟩
  | _ => exact ⟨n, _, by unfold code; rw [h1], h2⟩

theorem W.loop {X : Type} (le : X → Env) (Ge : X → Nat → (Nat → Obj) → Prop) (mu : X → Nat) (x0 : X) (hl : Sub (le x0) l) (hG : Ge x0 nx G)
    (h : ∀ x nx G, Ge x nx G → W C fid nt b (le x) G nx df pk (lop le Ge mu df pk x Φ)) : W C fid nt (.loop b) l G nx df pk Φ := by
  have key : ∀ k x nx G t, mu x ≤ k → Ge x nx G → Agree t (le x) → ∃ n o, iter (code C (low C n) n fid nt b) n ⟨t, G, nx, df, pk⟩ = some o ∧ Φ o := by
    intro k
    induction k with
    | zero =>
      intro x nx G t hk hG ht
      obtain ⟨n, o, h1, h2⟩ := (h x nx G hG).st t ht
      cases o with
      | norm s => obtain ⟨x', hlt, _⟩ := h2; omega
      | _ => exact ⟨n + 1, _, by unfold iter; rw [code_mono (low_succ n) (Nat.le_succ n) _ _ _ h1], h2⟩
    | succ k ih =>
      intro x nx G t hk hG ht
      obtain ⟨n, o, h1, h2⟩ := (h x nx G hG).st t ht
      cases o with
      | norm s =>
        obtain ⟨x', hlt, ha, hg, hd, hp⟩ := h2
        obtain ⟨m, o, h3, h4⟩ := ih x' s.nx s.G s.tmps (by omega) hg ha
        refine ⟨max n m + 1, o, ?_, h4⟩
        unfold iter
        have e : n ≤ max n m + 1 := Nat.le_succ_of_le (Nat.le_max_left n m)
        have e' : m ≤ max n m := Nat.le_max_right n m
        rw [code_mono (low_mono e) e _ _ _ h1]
        have : s = ⟨s.tmps, s.G, s.nx, df, pk⟩ := by cases s; simp_all
        simp only
        rw [this]
        exact iter_mono (fun s x hx => code_mono (low_mono (Nat.le_succ_of_le e')) (Nat.le_succ_of_le e') _ _ _ hx) _ _ e' _ _ h3
      | _ => exact ⟨n + 1, _, by unfold iter; rw [code_mono (low_succ n) (Nat.le_succ n) _ _ _ h1], h2⟩
  refine .mk fun t ht => ?_
  obtain ⟨n, o, h1, h2⟩ := key _ x0 nx G t (Nat.le_refl _) hG (ht.sub hl)
  exact ⟨n, o, by unfold code; exact h1, h2⟩

theorem W.ret (h : ∀ t, Agree t l → Φ (.ret ⟨t, G, nx, df, pk⟩)) : W C fid nt .ret l G nx df pk Φ := .mk fun t ht => ⟨0, _, rfl, h t ht⟩
theorem W.exit {id : Nat} (h : ∀ t, Agree t l → Φ (.exit id ⟨t, G, nx, df, pk⟩)) : W C fid nt (.exit id) l G nx df pk Φ := .mk fun t ht => ⟨0, _, rfl, h t ht⟩
theorem W.skip (h : ∀ t, Agree t l → Φ (.norm ⟨t, G, nx, df, pk⟩)) : W C fid nt .skip l G nx df pk Φ := .mk fun t ht => ⟨0, _, rfl, h t ht⟩

theorem W.retI (h : W C fid nt .ret l G nx df pk Φ) : ∀ t, Agree t l → Φ (.ret ⟨t, G, nx, df, pk⟩) := fun t ht => by
  obtain ⟨n, o, h1, h2⟩ := h.st t ht
  cases h1; exact h2
theorem W.exitI {id : Nat} (h : W C fid nt (.exit id) l G nx df pk Φ) : ∀ t, Agree t l → Φ (.exit id ⟨t, G, nx, df, pk⟩) := fun t ht => by
  obtain ⟨n, o, h1, h2⟩ := h.st t ht
  cases h1; exact h2
theorem W.skipI (h : W C fid nt .skip l G nx df pk Φ) : ∀ t, Agree t l → Φ (.norm ⟨t, G, nx, df, pk⟩) := fun t ht => by
  obtain ⟨n, o, h1, h2⟩ := h.st t ht
  cases h1; exact h2

/-! ends -/
theorem W.retAft {b : Code} (h : W C fid nt .ret l G nx df pk Φ) : W C fid nt .ret l G nx df pk (aft C fid nt b Φ) := .ret h.retI
theorem W.retBlk {id : Nat} (h : W C fid nt .ret l G nx df pk Φ) : W C fid nt .ret l G nx df pk (blk' id Φ) := .ret h.retI
theorem W.retLop {X : Type} {le : X → Env} {Ge : X → Nat → (Nat → Obj) → Prop} {mu : X → Nat} {df' : List (AV × List AV)} {pk' : Pk} {x : X} (h : W C fid nt .ret l G nx df pk Φ) : W C fid nt .ret l G nx df pk (lop le Ge mu df' pk' x Φ) := .ret h.retI
theorem W.exitAft {id : Nat} {b : Code} (h : W C fid nt (.exit id) l G nx df pk Φ) : W C fid nt (.exit id) l G nx df pk (aft C fid nt b Φ) := .exit h.exitI
theorem W.exitLop {id : Nat} {X : Type} {le : X → Env} {Ge : X → Nat → (Nat → Obj) → Prop} {mu : X → Nat} {df' : List (AV × List AV)} {pk' : Pk} {x : X} (h : W C fid nt (.exit id) l G nx df pk Φ) : W C fid nt (.exit id) l G nx df pk (lop le Ge mu df' pk' x Φ) := .exit h.exitI
theorem W.exitBlk {id : Nat} (h : W C fid nt .skip l G nx df pk Φ) : W C fid nt (.exit id) l G nx df pk (blk' id Φ) := .exit fun t ht => by
  show (if id = id then _ else _)
  rw [if_pos rfl]; exact h.skipI t ht
theorem W.exitBlkNe {id id' : Nat} (hn : Nat.beq id id' = false) (h : W C fid nt (.exit id) l G nx df pk Φ) : W C fid nt (.exit id) l G nx df pk (blk' id' Φ) := .exit fun t ht => by
  show (if id = id' then _ else _)
  rw [if_neg (fun e => by subst e; rw [Nat.beq_refl] at hn; cases hn)]; exact h.exitI t ht
theorem W.skipAft {b : Code} {fid' : Nat} (h : W C fid' nt b l G nx df pk Φ) : W C fid nt .skip l G nx df pk (aft C fid' nt b Φ) := .skip h.st
theorem W.skipBlk {id : Nat} (h : W C fid nt .skip l G nx df pk Φ) : W C fid nt .skip l G nx df pk (blk' id Φ) := .skip h.skipI
theorem W.skipLop {X : Type} {le : X → Env} {Ge : X → Nat → (Nat → Obj) → Prop} {mu : X → Nat} {x : X} (x' : X) (hm : mu x' < mu x) (hl : Sub (le x') l) (hG : Ge x' nx G) : W C fid nt .skip l G nx df pk (lop le Ge mu df pk x Φ) :=
  .skip fun _ ht => ⟨x', hm, ht.sub hl, hG, rfl, rfl⟩

/-! ### operations -/
variable {ol r : List Oper} {base i d : Nat} {ty : TypeId} {pos : String} {af : Array Edge} {v : AV} {ups : List (Nat × U)}

/-- What one operation comes to. -/
structure OpV (C : Cfg) (id : Nat) (l : Env) (G : Nat → Obj) (nx : Nat) (df : List (AV × List AV)) (pk : Pk) (op : Op) (v : AV) (ups : List (Nat × U)) : Prop where
  st : ∀ t, Agree t l → ∃ n, opA C (low C n) id ⟨t, G, nx, df, pk⟩ op = some (.val v ups)

theorem R.opU {op : Op} (h : OpV C (base + i) l G nx df pk op v ups) (hd : Nat.ble (d + 1) nt = true)
    (next : R C nt ol base (i + 1) r ((d, v) :: l) (updL G ups) nx df pk Φ) : R C nt ol base i (⟨some d, op, ty, pos, af, none⟩ :: r) l G nx df pk Φ := by
  refine .mk fun t ht => ?_
  obtain ⟨n, hn⟩ := h.st t ht
  obtain ⟨m, o, h1, h2⟩ := next.st (upd t d v) (ht.put d v)
  refine ⟨max n m, o, ?_, h2⟩
  have hlt : d < nt := Nat.le_of_ble_eq_true hd
  unfold runL stepA
  simp only [wantA, opA_mono (low_mono (Nat.le_max_left n m)) hn, Go.Abs.put, if_pos hlt]
  exact runL_mono (low_mono (Nat.le_max_right n m)) _ _ _ h1

theorem R.opN {op : Op} (h : OpV C (base + i) l G nx df pk op v ups)
    (next : R C nt ol base (i + 1) r l (updL G ups) nx df pk Φ) : R C nt ol base i (⟨none, op, ty, pos, af, none⟩ :: r) l G nx df pk Φ := by
  refine .mk fun t ht => ?_
  obtain ⟨n, hn⟩ := h.st t ht
  obtain ⟨m, o, h1, h2⟩ := next.st t ht
  refine ⟨max n m, o, ?_, h2⟩
  unfold runL stepA
  simp only [wantA, opA_mono (low_mono (Nat.le_max_left n m)) hn, Go.Abs.put]
  exact runL_mono (low_mono (Nat.le_max_right n m)) _ _ _ h1

theorem R.op0 {op : Op} (h : OpV C (base + i) l G nx df pk op v []) (hd : Nat.ble (d + 1) nt = true)
    (next : R C nt ol base (i + 1) r ((d, v) :: l) G nx df pk Φ) : R C nt ol base i (⟨some d, op, ty, pos, af, none⟩ :: r) l G nx df pk Φ := R.opU h hd next
theorem R.op1 {op : Op} {q : Nat} {x : Obj} (h : OpV C (base + i) l G nx df pk op v [(q, .set x)]) (hd : Nat.ble (d + 1) nt = true)
    (next : R C nt ol base (i + 1) r ((d, v) :: l) (upd G q x) nx df pk Φ) : R C nt ol base i (⟨some d, op, ty, pos, af, none⟩ :: r) l G nx df pk Φ := R.opU h hd next
theorem R.opN1 {op : Op} {q : Nat} {x : Obj} (h : OpV C (base + i) l G nx df pk op v [(q, .set x)])
    (next : R C nt ol base (i + 1) r l (upd G q x) nx df pk Φ) : R C nt ol base i (⟨none, op, ty, pos, af, none⟩ :: r) l G nx df pk Φ := R.opN h next

def gdst (ol : List Oper) (j : Nat) : Option Nat := (ol[j]?).bind (·.dst)

theorem wantA_eq {ol : List Oper} {t : Nat → AV} {o : Oper} {j d : Nat} {want : Bool} (hg : o.guard = some (j, want)) (hj : gdst ol j = some d) : wantA ⟨ol⟩ t o = match t d with
    | .imm (.bool b) => some (b == want)
    | .imm (.tup []) => some false
    | _ => none := by
  unfold gdst at hj
  unfold wantA
  rw [hg]
  simp only [List.getElem?_toArray, hj]
  rfl

theorem want_t {t : Nat → AV} (ht : Agree t l) {o : Oper} {j e : Nat} {want x : Bool} (hg : o.guard = some (j, want)) (hj : gdst ol j = some e) (he : look l e = some (.imm (.bool x))) (hx : x = want) : wantA ⟨ol⟩ t o = some true := by
  subst hx
  rw [wantA_eq hg hj, ht e _ he]; simp
theorem want_f {t : Nat → AV} (ht : Agree t l) {o : Oper} {j e : Nat} {want x : Bool} (hg : o.guard = some (j, want)) (hj : gdst ol j = some e) (he : look l e = some (.imm (.bool x))) (hx : x = !want) : wantA ⟨ol⟩ t o = some false := by
  subst hx
  rw [wantA_eq hg hj, ht e _ he]; cases want <;> rfl
theorem want_n {t : Nat → AV} (ht : Agree t l) {o : Oper} {j e : Nat} {want : Bool} (hg : o.guard = some (j, want)) (hj : gdst ol j = some e) (he : look l e = some (.imm (.tup []))) : wantA ⟨ol⟩ t o = some false := by
  rw [wantA_eq hg hj, ht e _ he]

theorem R.guardT {o : Option Nat} {op : Op} {j e : Nat} {want x : Bool} (hj : gdst ol j = some e) (he : look l e = some (.imm (.bool x))) (hx : x = want) (h : R C nt ol base i (⟨o, op, ty, pos, af, none⟩ :: r) l G nx df pk Φ) :
    R C nt ol base i (⟨o, op, ty, pos, af, some (j, want)⟩ :: r) l G nx df pk Φ := by
  refine .mk fun t ht => ?_
  obtain ⟨n, out, h1, h2⟩ := h.st t ht
  refine ⟨n, out, ?_, h2⟩
  have hw : wantA ⟨ol⟩ t ⟨o, op, ty, pos, af, some (j, want)⟩ = some true := want_t ht rfl hj he hx
  rw [← h1]
  unfold runL stepA
  simp only [hw]
  rfl

theorem R.guardS {op : Op} {j : Nat} {want : Bool} (hw : ∀ t, Agree t l → wantA ⟨ol⟩ t ⟨some d, op, ty, pos, af, some (j, want)⟩ = some false) (hd : Nat.ble (d + 1) nt = true) (h : R C nt ol base (i + 1) r ((d, .imm (.tup [])) :: l) G nx df pk Φ) :
    R C nt ol base i (⟨some d, op, ty, pos, af, some (j, want)⟩ :: r) l G nx df pk Φ := by
  refine .mk fun t ht => ?_
  obtain ⟨n, out, h1, h2⟩ := h.st _ (ht.put d _)
  refine ⟨n, out, ?_, h2⟩
  have hlt : d < nt := Nat.le_of_ble_eq_true hd
  unfold runL stepA
  simp only [hw t ht, Go.Abs.put, if_pos hlt]
  exact h1

theorem R.guardF {op : Op} {j e : Nat} {want x : Bool} (hj : gdst ol j = some e) (he : look l e = some (.imm (.bool x))) (hx : x = !want) (hd : Nat.ble (d + 1) nt = true) (h : R C nt ol base (i + 1) r ((d, .imm (.tup [])) :: l) G nx df pk Φ) :
    R C nt ol base i (⟨some d, op, ty, pos, af, some (j, want)⟩ :: r) l G nx df pk Φ := R.guardS (fun _ ht => want_f ht rfl hj he hx) hd h
theorem R.guardN {op : Op} {j e : Nat} {want : Bool} (hj : gdst ol j = some e) (he : look l e = some (.imm (.tup []))) (hd : Nat.ble (d + 1) nt = true) (h : R C nt ol base (i + 1) r ((d, .imm (.tup [])) :: l) G nx df pk Φ) :
    R C nt ol base i (⟨some d, op, ty, pos, af, some (j, want)⟩ :: r) l G nx df pk Φ := R.guardS (fun _ ht => want_n ht rfl hj he) hd h

/-! ### regions that draw their order -/
def runE (C : Cfg) (L : Low) (nt : Nat) (ops : Array Oper) (base : Nat) : Nat → List Oper → St → Option (St × List Fp)
  | _, [], s => some (s, [])
  | i, o :: r, s => match stepD C L nt ops base i o s with
    | some (s1, f) => match runE C L nt ops base (i + 1) r s1 with
      | some (s2, fs) => some (s2, f :: fs)
      | none => none
    | none => none

theorem runD_eq (C : Cfg) (L : Low) (nt : Nat) (ops : Array Oper) (base : Nat) : ∀ (l : List Oper) (i : Nat) (s : St), ops.toList.drop i = l → runD C L nt ops base (List.range' i l.length) s = runE C L nt ops base i l s
  | [], _, _, _ => rfl
  | o :: r, i, s, h => by
    have h0 : ops[i]? = some o := by
      have := congrArg (fun l => l[0]?) h
      simpa using this
    have h1 : ops.toList.drop (i + 1) = r := by
      have := congrArg List.tail h
      simpa using this
    simp only [List.length_cons, List.range'_succ, runD, h0, runE]
    cases stepD C L nt ops base i o s with
    | none => rfl
    | some x =>
      simp only [runD_eq C L nt ops base r (i + 1) x.1 h1]
      rfl

theorem runE_mono {L L' : Low} (h : L.le L') {nt : Nat} {ops : Array Oper} {base : Nat} : ∀ (l : List Oper) (i : Nat) (s : St) {x : St × List Fp}, runE C L nt ops base i l s = some x → runE C L' nt ops base i l s = some x
  | [], _, _, _, he => he
  | o :: r, i, s, x, he => by
    unfold runE at he ⊢
    cases hs : stepD C L nt ops base i o s with
    | none => rw [hs] at he; cases he
    | some y =>
      rw [stepD_mono h hs]; rw [hs] at he
      simp only at he ⊢
      cases hr : runE C L nt ops base (i + 1) r y.1 with
      | none => rw [hr] at he; cases he
      | some z => rw [runE_mono h r (i + 1) y.1 hr]; rw [hr] at he; exact he

structure D (C : Cfg) (nt : Nat) (ol : List Oper) (base i : Nat) (r : List Oper) (l : Env) (G : Nat → Obj) (nx : Nat) (df : List (AV × List AV)) (pk : Pk) (fs : List Fp) (Φ : Out → Prop) : Prop where
  st : ∀ t, Agree t l → ∃ n s' fs', runE C (low C n) nt ⟨ol⟩ base i r ⟨t, G, nx, df, pk⟩ = some (s', fs') ∧ (drawOK ⟨ol⟩ (fs.reverse ++ fs') && edgesOK ⟨ol⟩) = true ∧ Φ (.norm s')

theorem W.draw {k : Nat} {ol : List Oper} (h : D C nt ol nx 0 ol l G (nx + ol.length) df pk [] Φ) : W C fid nt (.region k ⟨ol⟩ true) l G nx df pk Φ := by
  refine .mk fun t ht => ?_
  obtain ⟨n, s', fs', h1, h2, h3⟩ := h.st t ht
  refine ⟨n, .norm s', ?_, h3⟩
  unfold code regionA
  rw [if_pos rfl]
  rw [← runD_eq C (low C n) nt ⟨ol⟩ nx ol 0 _ rfl, ← List.range_eq_range'] at h1
  have h1' : runD C (low C n) nt ⟨ol⟩ nx (List.range (Array.mk ol).size) { tmps := t, G := G, nx := nx + (Array.mk ol).size, defers := df, pk := pk } = some (s', fs') := h1
  simp only [h1']
  rw [if_pos (by simpa using h2)]

theorem D.done {fs : List Fp} (hk : (drawOK ⟨ol⟩ fs.reverse && edgesOK ⟨ol⟩) = true) (h : W C fid nt b l G nx df pk Φ) : D C nt ol base i [] l G nx df pk fs (aft C fid nt b Φ) :=
  .mk fun t ht => ⟨0, _, [], rfl, by rw [List.append_nil]; exact hk, h.st t ht⟩
theorem D.skip {fs : List Fp} (hk : (drawOK ⟨ol⟩ fs.reverse && edgesOK ⟨ol⟩) = true) (h : W C 0 nt .skip l G nx df pk Φ) : D C nt ol base i [] l G nx df pk fs Φ := .mk fun t ht => by
  obtain ⟨n, o, h1, h2⟩ := h.st t ht
  cases h1
  exact ⟨0, _, [], rfl, by rw [List.append_nil]; exact hk, h2⟩

/-- What an operation reads, by what is known. -/
def rdE (l : Env) (G : Nat → Obj) (o : Op) : Option (List Nat) :=
  match pureOp o with
  | true => some []
  | false => match o with
    | .call { callee := .builtin _, args, .. } => match looks l args.toList with
      | some vs => some (vs.flatMap direct)
      | none => none
    | .call { callee := .value f, args, .. } => match lookO l f with
      | some fv => match fnOf fv with
        | some (_, cap) => match looks l args.toList with
          | some vs => some ((vs ++ cap).flatMap (touch G pkDepth))
          | none => none
        | none => none
      | none => none
    | .slice _ x _ _ _ => match lookO l x with
      | some v => some (touch G pkDepth v)
      | none => none
    | .store _ a _ => match lookO l a with
      | some v => some (direct v)
      | none => none
    | .mapUpdate _ m _ _ | .insert _ m _ _ => match lookO l m with
      | some v => some (direct v)
      | none => none
    | .load _ x => match lookO l x with
      | some v => some (direct v)
      | none => none
    | .indexAddr _ x y | .lookup _ x y _ => match lookO l x, lookO l y with
      | some v, some w => some (direct v ++ direct w)
      | _, _ => none
    | .convert _ _ x => match lookO l x with
      | some v => some (direct v)
      | none => none
    | _ => none

theorem flat_map (h : AV → List Nat) {t : Nat → AV} (ht : Agree t l) {xs : List Operand} {vs : List AV} (hx : looks l xs = some vs) : (xs.flatMap fun x => h (Go.Abs.ev t x)) = vs.flatMap h := by
  rw [← ht.evs hx, List.flatMap_map]

theorem rdE_ok {t : Nat → AV} (ht : Agree t l) {op : Op} {rd : List Nat} (h : rdE l G op = some rd) : readsOf ⟨t, G, nx, df, pk⟩ op = rd := by
  unfold rdE at h
  unfold readsOf
  split at h
  · rename_i hp
    rw [if_pos hp]; cases h; rfl
  · rename_i hp
    rw [if_neg (by simp [hp])]
    split at h
    · simp only
      split at h
      · rename_i hl; cases h; exact flat_map direct ht hl
      · cases h
    · simp only
      split at h
      · rename_i fv hf
        split at h
        · rename_i cap hfn
          split at h
          · rename_i vs hl
            cases h
            rw [ht.ev hf, hfn, ht.evs hl]
          · cases h
        · cases h
      · cases h
    · simp only
      split at h
      · rename_i hl; cases h; rw [ht.ev hl]
      · cases h
    · simp only
      split at h
      · rename_i hl; cases h; rw [ht.ev hl]
      · cases h
    · simp only
      split at h
      · rename_i hl; cases h; rw [ht.ev hl]
      · cases h
    · simp only
      split at h
      · rename_i hl; cases h; rw [ht.ev hl]
      · cases h
    · split at h
      · rename_i hl; cases h; simp [Op.operands, ht.ev hl]
      · cases h
    · split at h
      · rename_i hl hl'; cases h; simp [Op.operands, ht.ev hl, ht.ev hl']
      · cases h
    · split at h
      · rename_i hl hl'; cases h; simp [Op.operands, ht.ev hl, ht.ev hl']
      · cases h
    · split at h
      · rename_i hl; cases h; simp [Op.operands, ht.ev hl]
      · cases h
    · cases h

theorem D.opU {op : Op} {fs : List Fp} {rd : List Nat} (h : OpV C (base + i) l G nx df pk op v ups) (hr : rdE l G op = some rd) (hd : Nat.ble (d + 1) nt = true)
    (next : D C nt ol base (i + 1) r ((d, v) :: l) (updL G ups) nx df pk (⟨i, rd, wrOf ups, fzOf ups⟩ :: fs) Φ) : D C nt ol base i (⟨some d, op, ty, pos, af, none⟩ :: r) l G nx df pk fs Φ := by
  refine .mk fun t ht => ?_
  obtain ⟨n, hn⟩ := h.st t ht
  obtain ⟨m, s', fs', h1, h2, h3⟩ := next.st (upd t d v) (ht.put d v)
  refine ⟨max n m, s', ⟨i, rd, wrOf ups, fzOf ups⟩ :: fs', ?_, by simpa using h2, h3⟩
  have hlt : d < nt := Nat.le_of_ble_eq_true hd
  unfold runE stepD
  simp only [wantA, opA_mono (low_mono (Nat.le_max_left n m)) hn, Go.Abs.put, if_pos hlt, rdE_ok ht hr]
  rw [runE_mono (low_mono (Nat.le_max_right n m)) _ _ _ h1]
theorem D.opN {op : Op} {fs : List Fp} {rd : List Nat} (h : OpV C (base + i) l G nx df pk op v ups) (hr : rdE l G op = some rd)
    (next : D C nt ol base (i + 1) r l (updL G ups) nx df pk (⟨i, rd, wrOf ups, fzOf ups⟩ :: fs) Φ) : D C nt ol base i (⟨none, op, ty, pos, af, none⟩ :: r) l G nx df pk fs Φ := by
  refine .mk fun t ht => ?_
  obtain ⟨n, hn⟩ := h.st t ht
  obtain ⟨m, s', fs', h1, h2, h3⟩ := next.st t ht
  refine ⟨max n m, s', ⟨i, rd, wrOf ups, fzOf ups⟩ :: fs', ?_, by simpa using h2, h3⟩
  unfold runE stepD
  simp only [wantA, opA_mono (low_mono (Nat.le_max_left n m)) hn, Go.Abs.put, rdE_ok ht hr]
  rw [runE_mono (low_mono (Nat.le_max_right n m)) _ _ _ h1]
theorem D.op0 {op : Op} {fs : List Fp} {rd : List Nat} (h : OpV C (base + i) l G nx df pk op v []) (hr : rdE l G op = some rd) (hd : Nat.ble (d + 1) nt = true)
    (next : D C nt ol base (i + 1) r ((d, v) :: l) G nx df pk (⟨i, rd, [], []⟩ :: fs) Φ) : D C nt ol base i (⟨some d, op, ty, pos, af, none⟩ :: r) l G nx df pk fs Φ := D.opU h hr hd next
theorem D.op1 {op : Op} {q : Nat} {x : Obj} {fs : List Fp} {rd : List Nat} (h : OpV C (base + i) l G nx df pk op v [(q, .set x)]) (hr : rdE l G op = some rd) (hd : Nat.ble (d + 1) nt = true)
    (next : D C nt ol base (i + 1) r ((d, v) :: l) (upd G q x) nx df pk (⟨i, rd, [q], []⟩ :: fs) Φ) : D C nt ol base i (⟨some d, op, ty, pos, af, none⟩ :: r) l G nx df pk fs Φ := D.opU h hr hd next
theorem D.opN1 {op : Op} {q : Nat} {x : Obj} {fs : List Fp} {rd : List Nat} (h : OpV C (base + i) l G nx df pk op v [(q, .set x)]) (hr : rdE l G op = some rd)
    (next : D C nt ol base (i + 1) r l (upd G q x) nx df pk (⟨i, rd, [q], []⟩ :: fs) Φ) : D C nt ol base i (⟨none, op, ty, pos, af, none⟩ :: r) l G nx df pk fs Φ := D.opN h hr next

theorem D.guardT {o : Option Nat} {op : Op} {j e : Nat} {want x : Bool} {fs : List Fp} (hj : gdst ol j = some e) (he : look l e = some (.imm (.bool x))) (hx : x = want) (h : D C nt ol base i (⟨o, op, ty, pos, af, none⟩ :: r) l G nx df pk fs Φ) :
    D C nt ol base i (⟨o, op, ty, pos, af, some (j, want)⟩ :: r) l G nx df pk fs Φ := by
  refine .mk fun t ht => ?_
  obtain ⟨n, s', fs', h1, h2⟩ := h.st t ht
  refine ⟨n, s', fs', ?_, h2⟩
  have hw : wantA ⟨ol⟩ t ⟨o, op, ty, pos, af, some (j, want)⟩ = some true := want_t ht rfl hj he hx
  rw [← h1]
  unfold runE stepD
  simp only [hw]
  rfl
theorem D.guardS {op : Op} {j : Nat} {want : Bool} {fs : List Fp} (hw : ∀ t, Agree t l → wantA ⟨ol⟩ t ⟨some d, op, ty, pos, af, some (j, want)⟩ = some false) (hd : Nat.ble (d + 1) nt = true) (h : D C nt ol base (i + 1) r ((d, .imm (.tup [])) :: l) G nx df pk (⟨i, [], [], []⟩ :: fs) Φ) :
    D C nt ol base i (⟨some d, op, ty, pos, af, some (j, want)⟩ :: r) l G nx df pk fs Φ := by
  refine .mk fun t ht => ?_
  obtain ⟨n, s', fs', h1, h2, h3⟩ := h.st _ (ht.put d _)
  refine ⟨n, s', ⟨i, [], [], []⟩ :: fs', ?_, by simpa using h2, h3⟩
  have hlt : d < nt := Nat.le_of_ble_eq_true hd
  unfold runE stepD
  simp only [hw t ht, Go.Abs.put, if_pos hlt]
  rw [h1]
theorem D.guardF {op : Op} {j e : Nat} {want x : Bool} {fs : List Fp} (hj : gdst ol j = some e) (he : look l e = some (.imm (.bool x))) (hx : x = !want) (hd : Nat.ble (d + 1) nt = true) (h : D C nt ol base (i + 1) r ((d, .imm (.tup [])) :: l) G nx df pk (⟨i, [], [], []⟩ :: fs) Φ) :
    D C nt ol base i (⟨some d, op, ty, pos, af, some (j, want)⟩ :: r) l G nx df pk fs Φ := D.guardS (fun _ ht => want_f ht rfl hj he hx) hd h
theorem D.guardN {op : Op} {j e : Nat} {want : Bool} {fs : List Fp} (hj : gdst ol j = some e) (he : look l e = some (.imm (.tup []))) (hd : Nat.ble (d + 1) nt = true) (h : D C nt ol base (i + 1) r ((d, .imm (.tup [])) :: l) G nx df pk (⟨i, [], [], []⟩ :: fs) Φ) :
    D C nt ol base i (⟨some d, op, ty, pos, af, some (j, want)⟩ :: r) l G nx df pk fs Φ := D.guardS (fun _ ht => want_n ht rfl hj he) hd h
theorem R.guardT1 {o : Option Nat} {op : Op} {j e : Nat} {x : Bool} (hj : gdst ol j = some e) (he : look l e = some (.imm (.bool x))) (hx : x = true) (h : R C nt ol base i (⟨o, op, ty, pos, af, none⟩ :: r) l G nx df pk Φ) :
    R C nt ol base i (⟨o, op, ty, pos, af, some (j, true)⟩ :: r) l G nx df pk Φ := R.guardT hj he hx h
theorem R.guardF1 {op : Op} {j e : Nat} {x : Bool} (hj : gdst ol j = some e) (he : look l e = some (.imm (.bool x))) (hx : x = false) (hd : Nat.ble (d + 1) nt = true) (h : R C nt ol base (i + 1) r ((d, .imm (.tup [])) :: l) G nx df pk Φ) :
    R C nt ol base i (⟨some d, op, ty, pos, af, some (j, true)⟩ :: r) l G nx df pk Φ := R.guardF hj he hx hd h
/-- A guard that hangs on data. -/
theorem R.guardC1 {op : Op} {j e : Nat} {x : Bool} (hj : gdst ol j = some e) (he : look l e = some (.imm (.bool x))) (hd : Nat.ble (d + 1) nt = true)
    (h1 : x = true → R C nt ol base i (⟨some d, op, ty, pos, af, none⟩ :: r) l G nx df pk Φ) (h0 : x = false → R C nt ol base (i + 1) r ((d, .imm (.tup [])) :: l) G nx df pk Φ) :
    R C nt ol base i (⟨some d, op, ty, pos, af, some (j, true)⟩ :: r) l G nx df pk Φ := by
  by_cases hx : x = true
  · exact R.guardT hj he hx (h1 hx)
  · have hx' : x = false := by simpa using hx
    exact R.guardF hj he hx' hd (h0 hx')
theorem R.guardT0 {o : Option Nat} {op : Op} {j e : Nat} {x : Bool} (hj : gdst ol j = some e) (he : look l e = some (.imm (.bool x))) (hx : x = false) (h : R C nt ol base i (⟨o, op, ty, pos, af, none⟩ :: r) l G nx df pk Φ) :
    R C nt ol base i (⟨o, op, ty, pos, af, some (j, false)⟩ :: r) l G nx df pk Φ := R.guardT hj he hx h
theorem R.guardF0 {op : Op} {j e : Nat} {x : Bool} (hj : gdst ol j = some e) (he : look l e = some (.imm (.bool x))) (hx : x = true) (hd : Nat.ble (d + 1) nt = true) (h : R C nt ol base (i + 1) r ((d, .imm (.tup [])) :: l) G nx df pk Φ) :
    R C nt ol base i (⟨some d, op, ty, pos, af, some (j, false)⟩ :: r) l G nx df pk Φ := R.guardF hj he hx hd h
/-- A guard that hangs on data. -/
theorem R.guardC0 {op : Op} {j e : Nat} {x : Bool} (hj : gdst ol j = some e) (he : look l e = some (.imm (.bool x))) (hd : Nat.ble (d + 1) nt = true)
    (h1 : x = false → R C nt ol base i (⟨some d, op, ty, pos, af, none⟩ :: r) l G nx df pk Φ) (h0 : x = true → R C nt ol base (i + 1) r ((d, .imm (.tup [])) :: l) G nx df pk Φ) :
    R C nt ol base i (⟨some d, op, ty, pos, af, some (j, false)⟩ :: r) l G nx df pk Φ := by
  by_cases hx : x = false
  · exact R.guardT hj he hx (h1 hx)
  · have hx' : x = true := by simpa using hx
    exact R.guardF hj he hx' hd (h0 hx')
theorem D.guardT1 {o : Option Nat} {op : Op} {j e : Nat} {x : Bool} {fs : List Fp} (hj : gdst ol j = some e) (he : look l e = some (.imm (.bool x))) (hx : x = true) (h : D C nt ol base i (⟨o, op, ty, pos, af, none⟩ :: r) l G nx df pk fs Φ) :
    D C nt ol base i (⟨o, op, ty, pos, af, some (j, true)⟩ :: r) l G nx df pk fs Φ := D.guardT hj he hx h
theorem D.guardF1 {op : Op} {j e : Nat} {x : Bool} {fs : List Fp} (hj : gdst ol j = some e) (he : look l e = some (.imm (.bool x))) (hx : x = false) (hd : Nat.ble (d + 1) nt = true) (h : D C nt ol base (i + 1) r ((d, .imm (.tup [])) :: l) G nx df pk (⟨i, [], [], []⟩ :: fs) Φ) :
    D C nt ol base i (⟨some d, op, ty, pos, af, some (j, true)⟩ :: r) l G nx df pk fs Φ := D.guardF hj he hx hd h
/-- A guard that hangs on data. -/
theorem D.guardC1 {op : Op} {j e : Nat} {x : Bool} {fs : List Fp} (hj : gdst ol j = some e) (he : look l e = some (.imm (.bool x))) (hd : Nat.ble (d + 1) nt = true)
    (h1 : x = true → D C nt ol base i (⟨some d, op, ty, pos, af, none⟩ :: r) l G nx df pk fs Φ) (h0 : x = false → D C nt ol base (i + 1) r ((d, .imm (.tup [])) :: l) G nx df pk (⟨i, [], [], []⟩ :: fs) Φ) :
    D C nt ol base i (⟨some d, op, ty, pos, af, some (j, true)⟩ :: r) l G nx df pk fs Φ := by
  by_cases hx : x = true
  · exact D.guardT hj he hx (h1 hx)
  · have hx' : x = false := by simpa using hx
    exact D.guardF hj he hx' hd (h0 hx')
theorem D.guardT0 {o : Option Nat} {op : Op} {j e : Nat} {x : Bool} {fs : List Fp} (hj : gdst ol j = some e) (he : look l e = some (.imm (.bool x))) (hx : x = false) (h : D C nt ol base i (⟨o, op, ty, pos, af, none⟩ :: r) l G nx df pk fs Φ) :
    D C nt ol base i (⟨o, op, ty, pos, af, some (j, false)⟩ :: r) l G nx df pk fs Φ := D.guardT hj he hx h
theorem D.guardF0 {op : Op} {j e : Nat} {x : Bool} {fs : List Fp} (hj : gdst ol j = some e) (he : look l e = some (.imm (.bool x))) (hx : x = true) (hd : Nat.ble (d + 1) nt = true) (h : D C nt ol base (i + 1) r ((d, .imm (.tup [])) :: l) G nx df pk (⟨i, [], [], []⟩ :: fs) Φ) :
    D C nt ol base i (⟨some d, op, ty, pos, af, some (j, false)⟩ :: r) l G nx df pk fs Φ := D.guardF hj he hx hd h
/-- A guard that hangs on data. -/
theorem D.guardC0 {op : Op} {j e : Nat} {x : Bool} {fs : List Fp} (hj : gdst ol j = some e) (he : look l e = some (.imm (.bool x))) (hd : Nat.ble (d + 1) nt = true)
    (h1 : x = false → D C nt ol base i (⟨some d, op, ty, pos, af, none⟩ :: r) l G nx df pk fs Φ) (h0 : x = true → D C nt ol base (i + 1) r ((d, .imm (.tup [])) :: l) G nx df pk (⟨i, [], [], []⟩ :: fs) Φ) :
    D C nt ol base i (⟨some d, op, ty, pos, af, some (j, false)⟩ :: r) l G nx df pk fs Φ := by
  by_cases hx : x = false
  · exact D.guardT hj he hx (h1 hx)
  · have hx' : x = true := by simpa using hx
    exact D.guardF hj he hx' hd (h0 hx')

/-! ### what each operation comes to -/
variable {id : Nat}

theorem O.of {op : Op} (h : ∀ t L, Agree t l → opA C L id ⟨t, G, nx, df, pk⟩ op = some (.val v ups)) : OpV C id l G nx df pk op v ups := ⟨fun t ht => ⟨0, h t _ ht⟩⟩

theorem O.move {x : Operand} (hx : lookO l x = some v) : OpV C id l G nx df pk (.move x) v [] := O.of fun t L ht => by simp only [opA, ht.ev hx]
theorem O.assign {x : Operand} (hx : lookO l x = some v) : OpV C id l G nx df pk (.assign x) v [] := O.of fun t L ht => by simp only [opA, ht.ev hx]
theorem O.pickT {c x y : Operand} {z : Bool} (hc : lookO l c = some (.imm (.bool z))) (hz : z = true) (hx : lookO l x = some v) : OpV C id l G nx df pk (.pick c x y) v [] :=
  O.of fun t L ht => by subst hz; simp only [opA, ht.ev hc, ht.ev hx, cond_true]
theorem O.pickF {c x y : Operand} {z : Bool} (hc : lookO l c = some (.imm (.bool z))) (hz : z = false) (hx : lookO l y = some v) : OpV C id l G nx df pk (.pick c x y) v [] :=
  O.of fun t L ht => by subst hz; simp only [opA, ht.ev hc, ht.ev hx, cond_false]
theorem O.int {op : BinOp} {t : TypeId} {x y : Operand} {t2 : TypeId} {k : IntKind} {m n : Int} {u : IV} (hx : lookO l x = some (.imm (.int k m))) (hy : lookO l y = some (.imm (.int k n))) (hv : intOp op k m n = some u) : OpV C id l G nx df pk (.binOp op t x y t2) (.imm u) [] :=
  O.of fun t L ht => by simp only [opA, ht.ev hx, ht.ev hy, binA, if_pos, hv, Option.map_some]
theorem O.cmp {op : BinOp} {t : TypeId} {x y : Operand} {t2 : TypeId} {k : IntKind} {m n : Int} {u : Bool} (hx : lookO l x = some (.imm (.int k m))) (hy : lookO l y = some (.imm (.int k n))) (hv : intOp op k m n = some (.bool u)) : OpV C id l G nx df pk (.binOp op t x y t2) (.imm (.bool u)) [] := O.int hx hy hv
theorem O.str {op : BinOp} {t : TypeId} {x y : Operand} {t2 : TypeId} {m n : ByteArray} {u : IV} (hx : lookO l x = some (.imm (.str m))) (hy : lookO l y = some (.imm (.str n))) (hv : strOp op m n = some u) : OpV C id l G nx df pk (.binOp op t x y t2) (.imm u) [] :=
  O.of fun t L ht => by simp only [opA, ht.ev hx, ht.ev hy, binA, hv, Option.map_some]

theorem wrap64 {x : Int} (h : -9223372036854775808 ≤ x ∧ x ≤ 9223372036854775807) : IntKind.i64.wrap x = x := by
  simp [IntKind.wrap, IntKind.bits, IntKind.signed]
  omega
theorem wrap8 {x : Int} (h : 0 ≤ x ∧ x ≤ 255) : IntKind.u8.wrap x = x := by
  simp [IntKind.wrap, IntKind.bits, IntKind.signed]
  omega
theorem add64 {m n : Int} (h : -9223372036854775808 ≤ m + n ∧ m + n ≤ 9223372036854775807) : intOp .add .i64 m n = some (.int .i64 (m + n)) := by simp only [intOp, wrap64 h]
theorem sub64 {m n : Int} (h : -9223372036854775808 ≤ m - n ∧ m - n ≤ 9223372036854775807) : intOp .sub .i64 m n = some (.int .i64 (m - n)) := by simp only [intOp, wrap64 h]
theorem add8 {m n : Int} (h : 0 ≤ m + n ∧ m + n ≤ 255) : intOp .add .u8 m n = some (.int .u8 (m + n)) := by simp only [intOp, wrap8 h]

theorem O.not {t : TypeId} {x : Operand} {z : Bool} (hx : lookO l x = some (.imm (.bool z))) : OpV C id l G nx df pk (.unOp .not t x) (.imm (.bool !z)) [] := O.of fun t L ht => by simp only [opA, ht.ev hx, unA]

/-- What a type is. -/
class TyIs (C : Cfg) (t : TypeId) (k : outParam TyI) : Prop where
  is : C.ty t = some k

theorem O.boolEq {t : TypeId} {x y : Operand} {t2 : TypeId} {m n : Bool} {k : TyI} [hk : TyIs C t k] (hb : k.d = .bool) (hx : lookO l x = some (.imm (.bool m))) (hy : lookO l y = some (.imm (.bool n))) : OpV C id l G nx df pk (.binOp .eql t x y t2) (.imm (.bool (m == n))) [] :=
  O.of fun t L ht => by simp only [opA, ht.ev hx, ht.ev hy, binA, eqAV, hk.is, hb, eqOp, Option.map_some]

theorem O.len {x : Operand} {t : TypeId} {k : TyI} [hk : TyIs C t k] (hx : lookO l x = some v) {m : Nat} (hl : lenA G k.d v = some m) : OpV C id l G nx df pk (.call { callee := .builtin .len, args := #[x], argTypes := #[t] }) (.imm (.int .i64 m)) [] :=
  O.of fun t L ht => by simp only [opA, List.map_cons, List.map_nil, ht.ev hx, aBuiltin, hk.is, hl]
theorem O.lenL {x : Operand} {t : TypeId} {k : TyI} {e : TypeId} [hk : TyIs C t k] {xs : List IV} (hx : lookO l x = some (.imm (.lst xs))) (hl : k.d = .sl e) : OpV C id l G nx df pk (.call { callee := .builtin .len, args := #[x], argTypes := #[t] }) (.imm (.int .i64 xs.length)) [] :=
  O.len (m := xs.length) hx (by rw [hl]; simp [lenA, elems])
theorem O.lenS {x : Operand} {t : TypeId} {k : TyI} [hk : TyIs C t k] {s : ByteArray} (hx : lookO l x = some (.imm (.str s))) (hl : k.d = .str) : OpV C id l G nx df pk (.call { callee := .builtin .len, args := #[x], argTypes := #[t] }) (.imm (.int .i64 s.size)) [] :=
  O.len (m := s.size) hx (by rw [hl]; simp [lenA])
theorem O.lenR {x : Operand} {t : TypeId} {k : TyI} {e et : TypeId} {o n sz : Nat} {xs : List AV} {fr : Bool} [hk : TyIs C t k] (hx : lookO l x = some (.row o n)) (hl : k.d = .sl e) (hG : G o = .row et sz xs fr) (hn : xs.length = n) :
    OpV C id l G nx df pk (.call { callee := .builtin .len, args := #[x], argTypes := #[t] }) (.imm (.int .i64 n)) [] :=
  O.len (m := n) hx (by rw [hl]; simp [lenA, elems, hG, hn])
theorem O.lenN {x : Operand} {t : TypeId} {k : TyI} {e : TypeId} [hk : TyIs C t k] (hx : lookO l x = some .nils) (hl : k.d = .sl e) : OpV C id l G nx df pk (.call { callee := .builtin .len, args := #[x], argTypes := #[t] }) (.imm (.int .i64 0)) [] :=
  O.len (m := 0) hx (by rw [hl]; simp [lenA, elems])

theorem O.index {x y : Operand} {t : TypeId} {k : TyI} {kk : IntKind} {w : ByteArray} {n : Int} [hk : TyIs C t k] (ht : k.d = .str) (hx : lookO l x = some (.imm (.str w))) (hy : lookO l y = some (.imm (.int kk n))) (hn : 0 ≤ n ∧ n < w.size) :
    OpV C id l G nx df pk (.index t x y) (.imm (.int .u8 (w.data.getD n.toNat 0).toNat)) [] :=
  O.of fun t L hA => by simp only [opA, hA.ev hx, hA.ev hy, aIndex, hk.is, ht, if_pos hn]

/-- The address of an element of a slice that is data. -/
theorem O.addrL {x y : Operand} {t e : TypeId} {k ke : TyI} {xs : List IV} {kk : IntKind} {n : Int} {u : IV} [hk : TyIs C t k] (ht : k.d = .sl e) [he : TyIs C e ke] (hx : lookO l x = some (.imm (.lst xs))) (hy : lookO l y = some (.imm (.int kk n)))
    (h0 : 0 ≤ n) (hu : xs[n.toNat]? = some u) (hs : u.cells.length = ke.sz) : OpV C id l G nx df pk (.indexAddr t x y) (.imm (.eptr xs n.toNat 0)) [] :=
  O.of fun t L hA => by simp only [opA, hA.ev hx, hA.ev hy, aIndexAddr, hk.is, ht, he.is, if_pos h0, elemAddr, hu, if_pos hs]
/-- An element of one cell. -/
theorem O.load1 {x : Operand} {t : TypeId} {k : TyI} {xs : List IV} {n : Nat} {u : IV} [hk : TyIs C t k] (hx : lookO l x = some (.imm (.eptr xs n 0))) (hu : xs[n]? = some u) (hc : u.cells = [u]) (hg : k.d.isAgg = false) (hs : k.sz = 1) :
    OpV C id l G nx df pk (.load t x) (.imm u) [] :=
  O.of fun t L hA => by simp [opA, hA.ev hx, aLoad, hk.is, hg, hs, readAt, hu, hc, sub]
theorem O.addrR {x y : Operand} {t e et : TypeId} {k ke : TyI} {o m sz : Nat} {xs : List AV} {fr : Bool} {kk : IntKind} {n : Int} [hk : TyIs C t k] (ht : k.d = .sl e) [he : TyIs C e ke] (hx : lookO l x = some (.row o m)) (hy : lookO l y = some (.imm (.int kk n)))
    (hG : G o = .row et sz xs fr) (hm : xs.length = m) (h0 : 0 ≤ n ∧ n < m) (hs : sz = ke.sz) : OpV C id l G nx df pk (.indexAddr t x y) (.rptr o m n.toNat 0) [] :=
  O.of fun t L hA => by
    have : n.toNat < m := by omega
    simp only [opA, hA.ev hx, hA.ev hy, aIndexAddr, hk.is, ht, he.is, if_pos h0.1, elemAddr, hG]
    rw [if_pos ⟨hm, this, hs⟩]
theorem O.loadR {x : Operand} {t et : TypeId} {k : TyI} {o m n sz : Nat} {xs : List AV} {fr : Bool} {u : AV} [hk : TyIs C t k] (hx : lookO l x = some (.rptr o m n 0)) (hG : G o = .row et sz xs fr) (hm : xs.length = m) (hu : xs[n]? = some u) (hc : u.cells = [u]) (hg : k.d.isAgg = false) (hs : k.sz = 1) :
    OpV C id l G nx df pk (.load t x) u [] :=
  O.of fun t L hA => by simp [opA, hA.ev hx, aLoad, hk.is, hg, hs, readAt, hG, hm, hu, hc, sub]
theorem O.loadB {x : Operand} {t : TypeId} {k : TyI} {o : Nat} {fr : Bool} {u : AV} [hk : TyIs C t k] (hx : lookO l x = some (.ptr o 0)) (hG : G o = .box [u] fr) (hg : k.d.isAgg = false) (hs : k.sz = 1) : OpV C id l G nx df pk (.load t x) u [] :=
  O.of fun t L hA => by simp [opA, hA.ev hx, aLoad, hk.is, hg, hs, readAt, hG, sub]
theorem O.storeB {a x : Operand} {t : TypeId} {k : TyI} {o : Nat} {u : AV} [hk : TyIs C t k] (ha : lookO l a = some (.ptr o 0)) (hx : lookO l x = some v) (hG : G o = .box [u] false) (hs : k.sz = 1) (hc : v.cells = [v]) (h1 : v.one = true) : OpV C id l G nx df pk (.store t a x) .undef [(o, .set (.box [v] false))] :=
  O.of fun t L hA => by simp [opA, hA.ev ha, hA.ev hx, aStore, hk.is, hs, hG, AV.fits, hc, h1, splice]
theorem O.box1 {x : Operand} {t : TypeId} {k : TyI} [hk : TyIs C t k] (hx : lookO l x = some v) (hs : k.sz = 1) (hc : v.cells = [v]) (h1 : v.one = true) : OpV C id l G nx df pk (.box t x) (.ptr id 0) [(id, .set (.box [v] false))] :=
  O.of fun t L hA => by simp [opA, hA.ev hx, aBox, hk.is, hs, AV.fits, hc, h1]
theorem O.alloc {t : TypeId} {k : TyI} [hk : TyIs C t k] {cs : List AV} (hc : k.zero.cells = cs) (hs : cs.length = k.sz) : OpV C id l G nx df pk (.alloc t) (.ptr id 0) [(id, .set (.box cs false))] :=
  O.of fun t L hA => by simp [opA, aAlloc, hk.is, hs, hc]

/-- What a call with data alone comes to. -/
def Ret (C : Cfg) (f : FuncId) (ivs : List IV) (x : IV) : Prop := ∃ n v G' nx' pk' ids, (low C n).call f (ivs.map .imm) .no (fun _ => .gone) 0 = some (.ret v G' nx', pk') ∧ peek G' pkDepth v = some (x, ids)

class FnIs (C : Cfg) (f : FuncId) : Prop where
  byref : C.byref f = false
  orc : ∀ l, C.orc f l = none

theorem peeks_imm (G : Nat → Obj) : ∀ l : List IV, peeks G (l.map .imm) = some (l, [])
  | [] => rfl
  | x :: r => by
    have := peeks_imm G r
    unfold peeks at this ⊢
    simp only [List.map_cons, peekL, this]
    rfl

theorem give_nil (small : Bool) (v : AV) : give [] small v = .val v [] := by cases small <;> rfl

def imms : List AV → Option (List IV)
  | [] => some []
  | .imm x :: r => match imms r with
    | some l => some (x :: l)
    | none => none
  | _ :: _ => none

theorem imms_eq : ∀ {l : List AV} {xs : List IV}, imms l = some xs → l = xs.map .imm
  | [], xs, h => by cases h; rfl
  | .imm x :: r, xs, h => by
    unfold imms at h
    split at h
    · rename_i l hl
      cases h
      rw [List.map_cons, imms_eq hl]
    · cases h
  | .undef :: r, xs, h => by cases h
  | .nils :: r, xs, h => by cases h
  | .ptr _ _ :: r, xs, h => by cases h
  | .rptr _ _ _ _ :: r, xs, h => by cases h
  | .row _ _ :: r, xs, h => by cases h
  | .map _ :: r, xs, h => by cases h
  | .fn _ _ :: r, xs, h => by cases h
  | .agg _ :: r, xs, h => by cases h
  | .tup _ :: r, xs, h => by cases h
  | .yld _ :: r, xs, h => by cases h

/-- A call with data. -/
theorem O.call {f : FuncId} {as : List Operand} {ats : Array TypeId} {vs : List AV} {ivs : List IV} {x : IV} [hf : FnIs C f] (ha : looks l as = some vs) (hi : imms vs = some ivs) (hr : Ret C f ivs x) :
    OpV C id l G nx df pk (.call { callee := .value (.func f), args := ⟨as⟩, argTypes := ats }) (.imm x) [] := by
  obtain ⟨n, v, G', nx', pk', ids, h1, h2⟩ := hr
  refine ⟨fun t ht => ⟨n, ?_⟩⟩
  simp only [opA, ev, aCall, fnOf, List.map_nil, List.append_nil, callA, hf.byref, Bool.false_eq_true, if_false, ht.evs ha, imms_eq hi, peeks_imm, hf.orc, h1, h2, give_nil]

/-! ### a function's end -/
def fin (C : Cfg) (rs : List ResultVar) (Ψ : AV → (Nat → Obj) → Nat → Prop) : Out → Prop
  | .norm s | .ret s => s.defers = [] ∧ s.pk = .no ∧ ∃ v, resultsA C s rs = some v ∧ Ψ v s.G s.nx
  | _ => False

theorem call_of {f : FuncId} {fn : Func} {b : Code} {args : List AV} {Ψ : AV → (Nat → Obj) → Nat → Prop} (hf : C.fn f = some fn) (hb : fn.body = some b) (hn : args.length ≤ fn.ntmps)
    (h : Wst C f fn.ntmps b ⟨initT args, G, nx, [], .no⟩ (fin C fn.results.toList Ψ)) : ∃ n v G' nx', (low C n).call f args .no G nx = some (.ret v G' nx', .no) ∧ Ψ v G' nx' := by
  obtain ⟨n, o, h1, h2⟩ := h
  have go : ∀ s : St, (s.defers = [] ∧ s.pk = .no ∧ ∃ v, resultsA C s fn.results.toList = some v ∧ Ψ v s.G s.nx) → ∃ v, leaveA C (low C n) fn.results.toList s.defers none s = some (.ret v s.G s.nx, .no) ∧ Ψ v s.G s.nx := by
    intro s ⟨hd, hp, v, hv, hΨ⟩
    exact ⟨v, by rw [hd]; simp only [leaveA, hv, hp], hΨ⟩
  cases o with
  | norm s =>
    obtain ⟨v, h3, h4⟩ := go s h2
    exact ⟨n + 1, v, s.G, s.nx, by simp only [low, callF, hf, hb, if_pos hn, h1, h3], h4⟩
  | ret s =>
    obtain ⟨v, h3, h4⟩ := go s h2
    exact ⟨n + 1, v, s.G, s.nx, by simp only [low, callF, hf, hb, if_pos hn, h1, h3], h4⟩
  | exit _ _ => exact h2.elim
  | pan _ _ => exact h2.elim

def envOf : Nat → List AV → Env
  | _, [] => []
  | i, v :: r => (i, v) :: envOf (i + 1) r

theorem agree_init (args : List AV) : Agree (initT args) (envOf 0 args) := by
  have key : ∀ (l : List AV) (k : Nat) i v, look (envOf k l) i = some v → k ≤ i ∧ l[i - k]? = some v := by
    intro l
    induction l with
    | nil => intro k i v h; cases h
    | cons x r ih =>
      intro k i v h
      unfold envOf look at h
      split at h
      · rename_i hb
        have : i = k := Nat.eq_of_beq_eq_true hb
        cases h
        subst this
        simp
      · obtain ⟨h1, h2⟩ := ih (k + 1) i v h
        refine ⟨by omega, ?_⟩
        have : i - k = (i - (k + 1)) + 1 := by omega
        rw [this]; simpa using h2
  intro i v h
  obtain ⟨_, h2⟩ := key args 0 i v h
  unfold initT
  simp only [Nat.sub_zero] at h2
  rw [h2]; rfl

/-- What a function gives: its code, step by step. -/
theorem Ret.of {f : FuncId} {fn : Func} {b : Code} {ivs : List IV} {x : IV} (hf : C.fn f = some fn) (hb : fn.body = some b) (hn : Nat.ble ivs.length fn.ntmps = true)
    (h : W C f fn.ntmps b (envOf 0 (ivs.map .imm)) (fun _ => .gone) 0 [] .no (fin C fn.results.toList fun v G _ => ∃ ids, peek G pkDepth v = some (x, ids))) : Ret C f ivs x := by
  obtain ⟨n, v, G', nx', h1, ids, h2⟩ := call_of hf hb (by simpa using Nat.le_of_ble_eq_true hn) (h.st _ (agree_init _))
  exact ⟨n, v, G', nx', .no, ids, h1, h2⟩

def resE (l : Env) : List ResultVar → Option (List AV)
  | [] => some []
  | .tmp t :: rs => match look l t, resE l rs with
    | some v, some vs => some (v :: vs)
    | _, _ => none
  | _ :: _ => none

theorem resE_ok {s : St} (h : Agree s.tmps l) : ∀ {rs : List ResultVar} {vs : List AV}, resE l rs = some vs → resultsL C s rs = some vs
  | [], vs, hr => by cases hr; rfl
  | .tmp t :: rs, vs, hr => by
    unfold resE at hr
    split at hr
    · rename_i v ws hv hw
      cases hr
      simp only [resultsL, resultA, h t v hv, resE_ok h hw]
    · cases hr
  | .cell _ _ :: rs, vs, hr => by cases hr

theorem W.retFin1 {t : Nat} {Ψ : AV → (Nat → Obj) → Nat → Prop} (hv : look l t = some v) (h : Ψ v G nx) : W C fid nt .ret l G nx [] .no (fin C [.tmp t] Ψ) :=
  .ret fun t ht => ⟨rfl, rfl, v, by simp only [resultsA, resultsL, resultA, ht _ v hv], h⟩
theorem W.retFin {rs : List ResultVar} {vs : List AV} {Ψ : AV → (Nat → Obj) → Nat → Prop} (hv : resE l rs = some vs) (hn : Nat.beq vs.length 1 = false) (h : Ψ (mkTup vs) G nx) : W C fid nt .ret l G nx [] .no (fin C rs Ψ) :=
  .ret fun t ht => ⟨rfl, rfl, mkTup vs, by
    simp only [resultsA, resE_ok (s := ⟨t, G, nx, [], .no⟩) ht hv]
    split
    · simp_all
    · rename_i heq; cases heq; rfl
    · simp_all, h⟩

end Go.Abs
