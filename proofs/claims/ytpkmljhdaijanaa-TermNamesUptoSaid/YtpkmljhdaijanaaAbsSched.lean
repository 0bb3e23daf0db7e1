/- The abstract interpreter: the orders that a region may draw. -/
import Derived.Test.YtpkmljhdaijanaaAbsRun
namespace Go.Abs

variable {ops : Array Oper}

theorem edges_lt (h : edgesOK ops = true) {i : Nat} {o : Oper} (ho : ops[i]? = some o) {e : Edge} (he : e ∈ o.after) (hb : Region.binds .any e = true) : e.on < i := by
  unfold edgesOK at h
  have := List.all_eq_true.1 h (o, i) (by rw [List.mem_zipIdx_iff_getElem?]; simpa using ho)
  have := Array.all_eq_true_iff_forall_mem.1 this e he
  simpa [hb] using this

/-! ### what comes before what -/
def bef (acc : Array Nat) (o : Oper) : Nat := o.after.foldl (fun s e => if Region.binds .any e then s ||| 2 ^ e.on ||| acc.getD e.on 0 else s) 0

theorem befs_size : ∀ (l : List Oper) (acc : Array Nat), (l.foldl (fun acc o => acc.push (bef acc o)) acc).size = acc.size + l.length
  | [], acc => rfl
  | o :: l, acc => by simp only [List.foldl_cons]; rw [befs_size l]; simp; omega

theorem befs_keep : ∀ (l : List Oper) (acc : Array Nat) (k : Nat), k < acc.size → (l.foldl (fun acc o => acc.push (bef acc o)) acc).getD k 0 = acc.getD k 0
  | [], acc, k, h => rfl
  | o :: l, acc, k, h => by
    simp only [List.foldl_cons]
    rw [befs_keep l _ k (by simp; omega)]
    simp [Array.getD_eq_getD_getElem?, Array.getElem?_push, Nat.ne_of_lt h]

/-- A bit of 'before' is an edge's, or one of what stands before that edge's end. -/
theorem bef_bit {acc : Array Nat} {o : Oper} {j : Nat} (h : (bef acc o).testBit j = true) : ∃ e ∈ o.after, Region.binds .any e = true ∧ (e.on = j ∨ (acc.getD e.on 0).testBit j = true) := by
  unfold bef at h
  rw [← Array.foldl_toList] at h
  have key : ∀ (l : List Edge) (s : Nat), (l.foldl (fun s e => if Region.binds .any e then s ||| 2 ^ e.on ||| acc.getD e.on 0 else s) s).testBit j = true → s.testBit j = true ∨ ∃ e ∈ l, Region.binds .any e = true ∧ (e.on = j ∨ (acc.getD e.on 0).testBit j = true) := by
    intro l
    induction l with
    | nil => intro s h; exact .inl h
    | cons e l ih =>
      intro s h
      simp only [List.foldl_cons] at h
      rcases ih _ h with h1 | ⟨e', he', h1⟩
      · split at h1
        · rename_i hb
          simp only [Nat.testBit_or, Bool.or_eq_true, Nat.testBit_two_pow, decide_eq_true_eq] at h1
          rcases h1 with (h1 | h1) | h1
          · exact .inl h1
          · exact .inr ⟨e, by simp, hb, .inl h1⟩
          · exact .inr ⟨e, by simp, hb, .inr h1⟩
        · exact .inl h1
      · exact .inr ⟨e', by simp [he'], h1⟩
  rcases key o.after.toList 0 h with h1 | ⟨e, he, h1⟩
  · simp at h1
  · exact ⟨e, by simpa using he, h1⟩

theorem before_at {i : Nat} {o : Oper} (ho : ops[i]? = some o) : ∃ acc : Array Nat, (Region.before ops).getD i 0 = bef acc o ∧ ∀ k j, (acc.getD k 0).testBit j = true → ((Region.before ops).getD k 0).testBit j = true := by
  have hb : Region.before ops = ops.toList.foldl (fun acc o => acc.push (bef acc o)) #[] := by
    unfold Region.before bef; rw [Array.foldl_toList]
  have hi : i < ops.toList.length := by have := (Array.getElem?_eq_some_iff.1 ho).1; simpa using this
  have hsplit : ops.toList = ops.toList.take i ++ o :: ops.toList.drop (i + 1) := by
    have e : ops.toList[i] = o := by have := (Array.getElem?_eq_some_iff.1 ho).2; simpa using this
    rw [← e, List.getElem_cons_drop, List.take_append_drop]
  have hlen : (ops.toList.take i).length = i := by rw [List.length_take]; omega
  refine ⟨(ops.toList.take i).foldl (fun acc o => acc.push (bef acc o)) #[], ?_, fun k j h => ?_⟩
  · rw [hb, hsplit, List.foldl_append, List.foldl_cons]
    have hs := befs_size (ops.toList.take i) #[]
    rw [hlen] at hs
    simp only [List.size_toArray, List.length_nil, Nat.zero_add] at hs
    rw [befs_keep _ _ i (by simp [hs])]
    simp only [List.take_append_of_le_length (Nat.le_of_eq hlen.symm)]
    rw [List.take_of_length_le (Nat.le_of_eq hlen)]
    rw [Array.getD_eq_getD_getElem?, Array.getElem?_push, if_pos hs.symm]
    rfl
  · have hs := befs_size (ops.toList.take i) #[]
    by_cases hk : k < ((ops.toList.take i).foldl (fun acc o => acc.push (bef acc o)) #[]).size
    · rw [hb, hsplit, List.foldl_append, befs_keep _ _ k hk]; exact h
    · rw [Array.getD_eq_getD_getElem?, Array.getElem?_eq_none (by omega)] at h
      simp at h

/-! ### the orders -/
def Closed (ops : Array Oper) (listed : Array Bool) : Prop := ∀ i, listed.getD i false = true → ∀ j, ((Region.before ops).getD i 0).testBit j = true → listed.getD j false = true

theorem ready_before {listed : Array Bool} (hc : Closed ops listed) {i : Nat} (hi : i ∈ Region.ready .any ops listed) {j : Nat} (h : ordered ops j i = true) : listed.getD j false = true := by
  obtain ⟨_, o, ho, hall⟩ := mem_ready.1 hi
  obtain ⟨acc, h1, h2⟩ := before_at ho
  unfold ordered at h
  rw [h1] at h
  obtain ⟨e, he, hb, hj⟩ := bef_bit h
  have hl := hall e he hb
  rcases hj with rfl | hj
  · exact hl
  · exact hc _ hl j (h2 _ _ hj)

theorem countP_one {p p' : Nat → Bool} {i : Nat} (hp : p i = true) (hp' : p' i = false) (hne : ∀ k, k ≠ i → p' k = p k) : ∀ n, i < n → (List.range n).countP p' + 1 = (List.range n).countP p := by
  intro n
  induction n with
  | zero => intro h; omega
  | succ n ih =>
    intro h
    rw [List.range_succ, List.countP_append, List.countP_append]
    by_cases hin : i = n
    · subst hin
      have : (List.range i).countP p' = (List.range i).countP p := List.countP_congr fun k hk => by
        rw [hne k (by have := List.mem_range.1 hk; omega)]
      simp [this, hp, hp']
    · have := ih (by omega)
      have e : p' n = p n := hne n (fun e => hin e.symm)
      simp only [List.countP_singleton, e]
      omega

theorem least {p : Nat → Bool} : ∀ n, (∃ k, k < n ∧ p k = true) → ∃ k, k < n ∧ p k = true ∧ ∀ j, j < k → p j = false := by
  intro n
  induction n with
  | zero => intro ⟨k, h, _⟩; omega
  | succ n ih =>
    intro ⟨k, hk, hp⟩
    by_cases h : ∃ k, k < n ∧ p k = true
    · obtain ⟨k', h1, h2, h3⟩ := ih h; exact ⟨k', by omega, h2, h3⟩
    · have hkn : k = n := by
        rcases Nat.lt_or_ge k n with h1 | h1
        · exact absurd ⟨k, h1, hp⟩ h
        · omega
      subst hkn
      refine ⟨k, hk, hp, fun j hj => ?_⟩
      cases e : p j with
      | false => rfl
      | true => exact absurd ⟨j, hj, e⟩ h

theorem set_getD {listed : Array Bool} {i j : Nat} (d : Bool) (hi : i < listed.size) : (listed.setIfInBounds i true).getD j d = if j = i then true else listed.getD j d := by
  rw [Array.getD_eq_getD_getElem?, Array.getD_eq_getD_getElem?, Array.getElem?_setIfInBounds]
  by_cases h : i = j
  · subst h; simp [hi]
  · simp [h, Ne.symm h]

theorem sched_go (he : edgesOK ops = true) : ∀ (fuel t : Nat) (listed : Array Bool), listed.size = ops.size → Closed ops listed → (List.range ops.size).countP (fun i => !listed.getD i true) = fuel →
    (Region.linearise.go .any ops fuel t listed []).Nodup ∧ (∀ i, i ∈ Region.linearise.go .any ops fuel t listed [] ↔ listed.getD i true = false) ∧ List.Pairwise (fun i j => ordered ops j i = false) (Region.linearise.go .any ops fuel t listed []) := by
  intro fuel
  induction fuel with
  | zero =>
    intro t listed hs hc hn
    simp only [Region.linearise.go, List.reverse_nil]
    refine ⟨List.nodup_nil, fun i => ⟨fun h => (by cases h), fun h => ?_⟩, List.Pairwise.nil⟩
    have hlt : i < ops.size := by
      rcases Nat.lt_or_ge i ops.size with h1 | h1
      · exact h1
      · rw [Array.getD_eq_getD_getElem?, Array.getElem?_eq_none (by omega)] at h; simp at h
    have := List.countP_eq_zero.1 hn i (List.mem_range.2 hlt)
    rw [h] at this; simp at this
  | succ fuel ih =>
    intro t listed hs hc hn
    simp only [Region.linearise.go]
    change List.Nodup (match (Region.ready .any ops listed)[t % (Region.ready .any ops listed).length]? with
      | some i => Region.linearise.go .any ops fuel (t / (Region.ready .any ops listed).length) (listed.setIfInBounds i true) [i]
      | none => [].reverse) ∧ (∀ i, i ∈ (match (Region.ready .any ops listed)[t % (Region.ready .any ops listed).length]? with
      | some i => Region.linearise.go .any ops fuel (t / (Region.ready .any ops listed).length) (listed.setIfInBounds i true) [i]
      | none => [].reverse) ↔ listed.getD i true = false) ∧ List.Pairwise (fun i j => ordered ops j i = false) (match (Region.ready .any ops listed)[t % (Region.ready .any ops listed).length]? with
      | some i => Region.linearise.go .any ops fuel (t / (Region.ready .any ops listed).length) (listed.setIfInBounds i true) [i]
      | none => [].reverse)
    -- something is ready
    obtain ⟨k0, hk0, hp0⟩ : ∃ k, k < ops.size ∧ (!listed.getD k true) = true := by
      have hpos : 0 < (List.range ops.size).countP (fun i => !listed.getD i true) := by omega
      obtain ⟨k, hk, hp⟩ := List.countP_pos_iff.1 hpos
      exact ⟨k, List.mem_range.1 hk, hp⟩
    obtain ⟨k, hk, hp, hmin⟩ := least (p := fun k => !listed.getD k true) ops.size ⟨k0, hk0, hp0⟩
    have hkr : k ∈ Region.ready .any ops listed := by
      refine mem_ready.2 ⟨by simpa using hp, ops[k], Array.getElem?_eq_getElem hk, fun e he' hb => ?_⟩
      have hlt := edges_lt he (Array.getElem?_eq_getElem hk) he' hb
      have := hmin _ hlt
      have h2 : e.on < listed.size := by omega
      simpa [Array.getD_eq_getD_getElem?, h2] using this
    have hpos : 0 < (Region.ready .any ops listed).length := List.length_pos_of_mem hkr
    have hlt : t % (Region.ready .any ops listed).length < (Region.ready .any ops listed).length := Nat.mod_lt _ hpos
    rw [List.getElem?_eq_getElem hlt]
    simp only []
    generalize hi : (Region.ready .any ops listed)[t % (Region.ready .any ops listed).length] = i
    have hir : i ∈ Region.ready .any ops listed := hi ▸ List.getElem_mem hlt
    obtain ⟨hun, o, ho, hall⟩ := mem_ready.1 hir
    have hio : i < listed.size := by have := (Array.getElem?_eq_some_iff.1 ho).1; omega
    have hc' : Closed ops (listed.setIfInBounds i true) := by
      intro x hx j hj
      rw [set_getD _ hio] at hx ⊢
      by_cases hji : j = i
      · rw [if_pos hji]
      · rw [if_neg hji]
        by_cases hxi : x = i
        · subst hxi
          exact ready_before hc hir hj
        · rw [if_neg hxi] at hx
          exact hc x hx j hj
    have hcount : (List.range ops.size).countP (fun j => !(listed.setIfInBounds i true).getD j true) = fuel := by
      have := countP_one (p := fun j => !listed.getD j true) (p' := fun j => !(listed.setIfInBounds i true).getD j true) (i := i) (by simpa using hun) (by simp only [set_getD _ hio, if_true]; rfl) (fun k hk => by simp only [set_getD _ hio]; rw [if_neg hk]) ops.size (by omega)
      omega
    obtain ⟨h1, h2, h3⟩ := ih (t / (Region.ready .any ops listed).length) (listed.setIfInBounds i true) (by simpa using hs) hc' hcount
    rw [linearise_go_acc, List.reverse_singleton, List.singleton_append]
    refine ⟨List.nodup_cons.2 ⟨fun hm => ?_, h1⟩, fun j => ?_, List.pairwise_cons.2 ⟨fun j hj => ?_, h3⟩⟩
    · have := (h2 i).1 hm
      rw [set_getD _ hio, if_pos rfl] at this; cases this
    · rw [List.mem_cons, h2, set_getD _ hio]
      by_cases hji : j = i
      · subst hji; simp [hun]
      · simp [hji]
    · cases hor : ordered ops j i with
      | false => rfl
      | true =>
        have hl := ready_before hc hir hor
        have hj' := (h2 j).1 hj
        rw [set_getD _ hio] at hj'
        split at hj'
        · cases hj'
        · rename_i hne
          rcases Nat.lt_or_ge j listed.size with h4 | h4
          · rw [Array.getD_eq_getD_getElem?] at hl hj'; simp [h4] at hl hj'; rw [hl] at hj'; cases hj'
          · rw [Array.getD_eq_getD_getElem?, Array.getElem?_eq_none h4] at hl; simp at hl

theorem sched_ok (he : edgesOK ops = true) (t : Nat) :
    (Region.schedule true ops t).Nodup ∧ (∀ i, i ∈ Region.schedule true ops t ↔ i < ops.size) ∧ List.Pairwise (fun i j => ordered ops j i = false) (Region.schedule true ops t) := by
  have hg : ∀ i, (Array.replicate ops.size false).getD i false = false := fun i => by
    rw [Array.getD_eq_getD_getElem?, Array.getElem?_replicate]; split <;> rfl
  have h := sched_go he ops.size t (Array.replicate ops.size false) (by simp) (fun i hi => by rw [hg i] at hi; cases hi) (by
    rw [List.countP_eq_length.2 (fun i hi => by
      have := List.mem_range.1 hi
      simp [Array.getD_eq_getD_getElem?, this])]
    simp)
  simp only [Region.schedule, Bool.true_or, if_true, Region.linearise]
  refine ⟨h.1, fun i => (h.2.1 i).trans ?_, h.2.2⟩
  rw [Array.getD_eq_getD_getElem?, Array.getElem?_replicate]
  by_cases hi : i < ops.size <;> simp [hi]

end Go.Abs
