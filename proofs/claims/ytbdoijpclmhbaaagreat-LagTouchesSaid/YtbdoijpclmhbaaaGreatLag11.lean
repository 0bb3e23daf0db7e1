/- Going round a ring until nothing changes: the rounds end after as many as there are members. -/
import Derived.Test.YtbdoijpclmhbaaaGreatLag10
namespace Go.Abs.Iter
def le : Option Int → Option Int → Prop
  | none, _ => True
  | some _, none => False
  | some a, some b => a ≤ b
def lt (a b : Option Int) : Prop := ¬ le b a
theorem le_refl : ∀ a, le a a
  | none => trivial
  | some _ => Int.le_refl _
theorem le_trans {a b c : Option Int} (h : le a b) (h2 : le b c) : le a c := by
  cases a with
  | none => trivial
  | some x => cases b with
    | none => exact absurd h id
    | some y => cases c with
      | none => exact absurd h2 id
      | some z => exact Int.le_trans h h2
theorem le_antisymm {a b : Option Int} (h : le a b) (h2 : le b a) : a = b := by
  cases a with
  | none => cases b with
    | none => rfl
    | some y => exact absurd h2 id
  | some x => cases b with
    | none => exact absurd h id
    | some y => exact congrArg some (Int.le_antisymm h h2)
theorem le_total (a b : Option Int) : le a b ∨ le b a := by
  cases a with
  | none => exact .inl trivial
  | some x => cases b with
    | none => exact .inr trivial
    | some y => exact Int.le_total x y
theorem lt_of_ne {a b : Option Int} (h : le a b) (hn : a ≠ b) : lt a b := fun h2 => hn (le_antisymm h h2)
theorem lt_of_lt_of_le {a b c : Option Int} (h : lt a b) (h2 : le b c) : lt a c := fun h3 => h (le_trans h2 h3)
theorem not_lt {a b : Option Int} (h : ¬ lt a b) : le b a := Classical.byContradiction fun h2 => h h2
def LE (u v : Nat → Option Int) : Prop := ∀ d, le (u d) (v d)
theorem nodup_le : ∀ (a b : List Nat), a.Nodup → (∀ x ∈ a, x ∈ b) → a.length ≤ b.length
  | [], _, _, _ => Nat.zero_le _
  | x :: a, b, hn, h => by
    rw [List.nodup_cons] at hn
    have hx : x ∈ b := h x (List.mem_cons_self ..)
    have := nodup_le a (b.erase x) hn.2 (fun y hy => by
      have hne : y ≠ x := fun e => hn.1 (e ▸ hy)
      exact (List.mem_erase_of_ne hne).2 (h y (List.mem_cons_of_mem _ hy)))
    rw [List.length_erase_of_mem hx] at this
    have : 0 < b.length := List.length_pos_of_mem hx
    simp only [List.length_cons]; omega
section
variable (F : (Nat → Option Int) → Nat → Option Int) (g : List Nat)
def jac (v : Nat → Option Int) : Nat → Option Int := fun d => if d ∈ g then F v d else v d
def one (v : Nat → Option Int) (d : Nat) : Nat → Option Int := fun x => if x = d then F v d else v x
def gs (v : Nat → Option Int) : Nat → Option Int := g.foldl (one F) v
def it (f : (Nat → Option Int) → (Nat → Option Int)) : Nat → (Nat → Option Int) → (Nat → Option Int)
  | 0, v => v
  | n + 1, v => f (it f n v)
structure Ok (v0 : Nat → Option Int) : Prop where
  start : ∀ d ∈ g, v0 d = none
  mono : ∀ u v, LE u v → ∀ d, le (F u d) (F v d)
  wit : ∀ u v, LE u v → (∀ d, d ∉ g → u d = v d) → ∀ d ∈ g, lt (F u d) (F v d) → ∃ e ∈ g, le (F v d) (v e) ∧ lt (u e) (v e)
variable {F g} {v0 : Nat → Option Int} (h : Ok F g v0)
include h
theorem jac_mono {u v : Nat → Option Int} (huv : LE u v) : LE (jac F g u) (jac F g v) := fun d => by
  unfold jac; split
  · exact h.mono u v huv d
  · exact huv d
omit h in
theorem it_out (n : Nat) : ∀ d, d ∉ g → it (jac F g) n v0 d = v0 d := by
  induction n with
  | zero => exact fun d _ => rfl
  | succ n ih =>
    intro d hd
    show jac F g _ d = _
    unfold jac; rw [if_neg hd]; exact ih d hd
theorem it_up (n : Nat) : LE (it (jac F g) n v0) (it (jac F g) (n + 1) v0) := by
  induction n with
  | zero =>
    intro d
    by_cases hd : d ∈ g
    · show le (v0 d) _
      rw [h.start d hd]; trivial
    · rw [it_out (0 + 1) d hd]; exact le_refl _
  | succ n ih => exact jac_mono h ih
theorem it_upto {m n : Nat} (hmn : m ≤ n) : LE (it (jac F g) m v0) (it (jac F g) n v0) := by
  induction hmn with
  | refl => exact fun d => le_refl _
  | step _ ih => exact fun d => le_trans (ih d) (it_up h _ d)
theorem chain (t : Nat) : ∀ d, lt (it (jac F g) t v0 d) (it (jac F g) (t + 1) v0 d) →
    ∃ l : List Nat, l.length = t + 1 ∧ l.Nodup ∧ (∀ x ∈ l, x ∈ g) ∧ ∀ x ∈ l, ∃ j, j ≤ t ∧ le (it (jac F g) (t + 1) v0 d) (it (jac F g) (j + 1) v0 x) := by
  induction t with
  | zero =>
    intro d hd
    have hg : d ∈ g := Classical.byContradiction fun hg => by
      rw [it_out (0 + 1) d hg] at hd; exact hd (le_refl _)
    exact ⟨[d], rfl, List.nodup_cons.2 ⟨List.not_mem_nil, List.nodup_nil⟩, fun x hx => by simp only [List.mem_singleton] at hx; exact hx ▸ hg, fun x hx => by
      simp only [List.mem_singleton] at hx; exact ⟨0, Nat.le_refl _, hx ▸ le_refl _⟩⟩
  | succ t ih =>
    intro d hd
    have hg : d ∈ g := Classical.byContradiction fun hg => by
      rw [it_out (t + 1 + 1) d hg, it_out (t + 1) d hg] at hd; exact hd (le_refl _)
    have hs : ∀ n, it (jac F g) (n + 1) v0 d = F (it (jac F g) n v0) d := fun n => by
      show jac F g _ d = _; unfold jac; rw [if_pos hg]
    have hd' := hd
    rw [hs (t + 1), hs t] at hd'
    obtain ⟨e, _, he1, he2⟩ := h.wit _ _ (it_up h t) (fun x hx => by rw [it_out t x hx, it_out (t + 1) x hx]) d hg hd'
    obtain ⟨l, hl, hn, hm, hj⟩ := ih e he2
    rw [← hs (t + 1)] at he1
    refine ⟨d :: l, by simp [hl], List.nodup_cons.2 ⟨?_, hn⟩, ?_, ?_⟩
    · intro hdl
      obtain ⟨j, hjt, hle⟩ := hj d hdl
      exact hd (le_trans (le_trans he1 hle) (it_upto h (Nat.add_le_add_right hjt 1) d))
    · intro x hx
      rcases List.mem_cons.1 hx with rfl | hx
      · exact hg
      · exact hm x hx
    · intro x hx
      rcases List.mem_cons.1 hx with rfl | hx
      · exact ⟨t + 1, Nat.le_refl _, le_refl _⟩
      · obtain ⟨j, hjt, hle⟩ := hj x hx
        exact ⟨j, Nat.le_succ_of_le hjt, le_trans he1 hle⟩
theorem jac_fix : jac F g (it (jac F g) g.length v0) = it (jac F g) g.length v0 := by
  funext d
  refine Classical.byContradiction fun hne => ?_
  have hup := it_up h g.length d
  obtain ⟨l, hl, hn, hm, _⟩ := chain h g.length d (lt_of_ne hup fun e => hne e.symm)
  have := nodup_le l g hn hm
  omega
theorem gsl_up : ∀ (r : List Nat) (u : Nat → Option Int), (∀ d, le (u d) (if d ∈ g then F u d else u d)) → (∀ d ∈ r, d ∈ g) → LE u (r.foldl (one F) u) ∧ (∀ d, le (r.foldl (one F) u d) (if d ∈ g then F (r.foldl (one F) u) d else r.foldl (one F) u d)) ∧ ∀ d ∈ r, le (F u d) (r.foldl (one F) u d)
  | [], u, hu, _ => ⟨fun d => le_refl _, hu, fun d hd => absurd hd List.not_mem_nil⟩
  | x :: r, u, hu, hr => by
    have hxg : x ∈ g := hr x (List.mem_cons_self ..)
    have h1 : LE u (one F u x) := fun d => by
      unfold one; split
      · rename_i e; subst e; have := hu d; rwa [if_pos hxg] at this
      · exact le_refl _
    have h2 : ∀ d, le (one F u x d) (if d ∈ g then F (one F u x) d else one F u x d) := fun d => by
      by_cases hd : d ∈ g
      · rw [if_pos hd]
        have hle : le (one F u x d) (F u d) := by
          unfold one; split
          · rename_i e; subst e; exact le_refl _
          · have := hu d; rwa [if_pos hd] at this
        exact le_trans hle (h.mono _ _ h1 d)
      · rw [if_neg hd]; exact le_refl _
    obtain ⟨h3, h4, h5⟩ := gsl_up r (one F u x) h2 (fun d hd => hr d (List.mem_cons_of_mem _ hd))
    refine ⟨fun d => le_trans (h1 d) (h3 d), h4, fun d hd => ?_⟩
    rcases List.mem_cons.1 hd with rfl | hd
    · have := h3 d
      unfold one at this; rw [if_pos rfl] at this; exact this
    · exact le_trans (h.mono _ _ h1 d) (h5 d hd)
theorem gsl_le {w : Nat → Option Int} (hw : ∀ d ∈ g, F w d = w d) : ∀ (r : List Nat) (u : Nat → Option Int), (∀ d ∈ r, d ∈ g) → LE u w → LE (r.foldl (one F) u) w
  | [], u, _, hu => hu
  | x :: r, u, hr, hu => by
    refine gsl_le hw r (one F u x) (fun d hd => hr d (List.mem_cons_of_mem _ hd)) fun d => ?_
    unfold one; split
    · rename_i e; subst e
      rw [← hw d (hr d (List.mem_cons_self ..))]; exact h.mono _ _ hu d
    · exact hu d
theorem gs_it (n : Nat) : LE (it (jac F g) n v0) (it (gs F g) n v0) ∧ LE (it (gs F g) n v0) (it (jac F g) g.length v0) ∧ ∀ d, le (it (gs F g) n v0 d) (if d ∈ g then F (it (gs F g) n v0) d else it (gs F g) n v0 d) := by
  induction n with
  | zero =>
    refine ⟨fun d => le_refl _, it_upto h (Nat.zero_le _), fun d => ?_⟩
    by_cases hd : d ∈ g
    · show le (v0 d) _
      rw [h.start d hd]; trivial
    · rw [if_neg hd]; exact le_refl _
  | succ n ih =>
    obtain ⟨h1, h2, h3⟩ := ih
    obtain ⟨a1, a2, a3⟩ := gsl_up h g (it (gs F g) n v0) h3 (fun _ hd => hd)
    refine ⟨fun d => ?_, ?_, a2⟩
    · show le (jac F g _ d) (gs F g _ d)
      unfold jac; split
      · rename_i hd
        exact le_trans (h.mono _ _ h1 d) (a3 d hd)
      · exact le_trans (h1 d) (a1 d)
    · refine gsl_le h (fun d hd => ?_) g _ (fun _ hd => hd) h2
      have := congrFun (jac_fix h) d
      unfold jac at this; rwa [if_pos hd] at this
theorem gs_eq {n : Nat} (hn : g.length ≤ n) : it (gs F g) n v0 = it (jac F g) g.length v0 := by
  funext d
  obtain ⟨h1, h2, _⟩ := gs_it h n
  exact le_antisymm (h2 d) (le_trans (it_upto h hn d) (h1 d))
end
end Go.Abs.Iter

/- How expressions depend on sources: what the reference says, and what of it goes round a ring. -/
open Go Go.Abs
namespace Go.Abs
set_option maxRecDepth 100000
structure Lg where
  on : Bool
  ever : Bool
  back : Int
  ahead : Int
def Lg.z : Lg := ⟨false, false, 0, 0⟩
def Lg.iv (a : Lg) : IV := .agg [.bool a.on, .bool a.ever, .int .i64 a.back, .int .i64 a.ahead]
structure Lg.Ok (a : Lg) : Prop where
  back : a.ever = true → a.back = 0
  none : a.on = false → a = Lg.z
def mxI (a b : Int) : Int := if b > a then b else a
theorem mxI_eq (a b : Int) : mxI a b = max a b := by unfold mxI; split <;> omega
def Lg.both (a b : Lg) : Lg := if a.on then (if b.on then ⟨true, a.ever || b.ever, if a.ever || b.ever then 0 else mxI a.back b.back, mxI a.ahead b.ahead⟩ else a) else b
def Lg.thru (a : Lg) (ev : Bool) (bk ah : Int) : Lg := if a.on then ⟨true, a.ever || ev, if a.ever || ev then 0 else a.back + bk, a.ahead + ah⟩ else a
def kidL (op n : Int) (i : Nat) (a : Lg) : Lg :=
  if op = 7 then a.thru false n (-n) else if op = 8 then a.thru false (n - 1) 0 else if op = 9 ∨ op = 12 then a.thru false n 0
  else if op = 10 ∨ op = 11 then a.thru true 0 0 else if op = 13 then a.thru (i == 1) 0 0 else if op = 14 then a.thru false (n * i) (n * i) else a
mutual
/-- An expression's lag about one source, by those of the definitions. -/
def expG (srcs names : List Str) (v : Nat → Lg) (s : Nat) : Exp → Lg
  | .mk op name n _ _ kids => if op = 1 then (if idxN srcs name = s then ⟨true, false, 0, 0⟩ else Lg.z) else if op = 2 ∨ op = 3 then (v (idxN names name)).thru false n (-n) else kidsG srcs names v s op n kids 0 Lg.z
def kidsG (srcs names : List Str) (v : Nat → Lg) (s : Nat) (op n : Int) : List Exp → Nat → Lg → Lg
  | [], _, out => out
  | x :: r, i, out => kidsG srcs names v s op n r (i + 1) (out.both (kidL op n i (expG srcs names v s x)))
end
theorem Lg.okz : Lg.z.Ok := ⟨fun _ => rfl, fun _ => rfl⟩
theorem Lg.Ok.both {a b : Lg} (ha : a.Ok) (hb : b.Ok) : (a.both b).Ok := by
  unfold Lg.both
  split
  · split
    · exact ⟨fun h => by simp only at h; simp only [h, if_true], fun h => by cases h⟩
    · exact ha
  · exact hb
theorem Lg.Ok.thru {a : Lg} (ha : a.Ok) (ev : Bool) (bk ah : Int) : (a.thru ev bk ah).Ok := by
  unfold Lg.thru
  split
  · exact ⟨fun h => by simp only at h; simp only [h, if_true], fun h => by cases h⟩
  · exact ha
theorem Lg.Ok.kid {a : Lg} (ha : a.Ok) (op n : Int) (i : Nat) : (kidL op n i a).Ok := by
  unfold kidL
  repeat' split
  all_goals first | exact ha.thru _ _ _ | exact ha
mutual
theorem expG_ok (srcs names : List Str) {v : Nat → Lg} (hv : ∀ d, (v d).Ok) (s : Nat) : ∀ e, (expG srcs names v s e).Ok
  | .mk op name n fold calcs kids => by
    rw [expG]
    split
    · split
      · exact ⟨fun _ => rfl, fun h => by cases h⟩
      · exact Lg.okz
    · split
      · exact (hv _).thru _ _ _
      · exact kidsG_ok srcs names hv s op n kids 0 _ Lg.okz
theorem kidsG_ok (srcs names : List Str) {v : Nat → Lg} (hv : ∀ d, (v d).Ok) (s : Nat) (op n : Int) : ∀ (l : List Exp) (i : Nat) (out : Lg), out.Ok → (kidsG srcs names v s op n l i out).Ok
  | [], _, _, h => h
  | x :: r, i, out, h => by
    rw [kidsG]
    exact kidsG_ok srcs names hv s op n r (i + 1) _ (h.both ((expG_ok srcs names hv s x).kid op n i))
end
/-! How far ahead. -/
def Lg.key (a : Lg) : Option Int := if a.on then some a.ahead else none
def omax : Option Int → Option Int → Option Int
  | none, b => b
  | some a, none => some a
  | some a, some b => some (max a b)
def oup (k : Int) : Option Int → Option Int
  | none => none
  | some a => some (a + k)
def foreK (op n : Int) (i : Nat) : Int := if op = 7 then -n else if op = 14 then n * i else 0
theorem key_both (a b : Lg) : (a.both b).key = omax a.key b.key := by
  unfold Lg.both Lg.key
  cases ha : a.on <;> cases hb : b.on <;> simp [omax, ha, hb, mxI_eq]
theorem key_thru (a : Lg) (ev : Bool) (bk ah : Int) : (a.thru ev bk ah).key = oup ah a.key := by
  unfold Lg.thru Lg.key
  cases ha : a.on <;> simp [oup, ha]
theorem key_kid (op n : Int) (i : Nat) (a : Lg) : (kidL op n i a).key = oup (foreK op n i) a.key := by
  have h0 : a.key = oup 0 a.key := by cases a.key <;> simp [oup]
  unfold kidL foreK
  by_cases h7 : op = 7
  · simp only [h7, if_true]; exact key_thru ..
  simp only [h7, if_false]
  by_cases h8 : op = 8
  · subst h8; simp [key_thru]
  simp only [h8, if_false]
  by_cases h9 : op = 9 ∨ op = 12
  · rcases h9 with rfl | rfl <;> simp [key_thru]
  simp only [h9, if_false]
  by_cases h10 : op = 10 ∨ op = 11
  · rcases h10 with rfl | rfl <;> simp [key_thru]
  simp only [h10, if_false]
  by_cases h13 : op = 13
  · subst h13; simp [key_thru]
  simp only [h13, if_false]
  by_cases h14 : op = 14
  · simp only [h14, if_true]; exact key_thru ..
  simp only [h14, if_false]; exact h0
open Iter in
theorem le_omax {a a' b b' : Option Int} (h : le a b) (h' : le a' b') : le (omax a a') (omax b b') := by
  cases a <;> cases a' <;> cases b <;> cases b' <;> simp only [le, omax] at h h' ⊢ <;> omega
open Iter in
theorem le_oup {a b : Option Int} (k : Int) (h : le a b) : le (oup k a) (oup k b) := by
  cases a <;> cases b <;> simp only [le, oup] at h ⊢; omega
section
open Iter
variable (srcs names : List Str) (s : Nat)
mutual
theorem expG_mono {u v : Nat → Lg} (h : ∀ d, le (u d).key (v d).key) : ∀ e, le (expG srcs names u s e).key (expG srcs names v s e).key
  | .mk op name n fold calcs kids => by
    rw [expG, expG]
    split
    · exact le_refl _
    · split
      · rw [key_thru, key_thru]; exact le_oup _ (h _)
      · exact kidsG_mono h op n kids 0 (le_refl _)
theorem kidsG_mono {u v : Nat → Lg} (h : ∀ d, le (u d).key (v d).key) (op n : Int) : ∀ (l : List Exp) (i : Nat) {a b : Lg}, le a.key b.key → le (kidsG srcs names u s op n l i a).key (kidsG srcs names v s op n l i b).key
  | [], _, _, _, hab => by rw [kidsG, kidsG]; exact hab
  | x :: r, i, a, b, hab => by
    rw [kidsG, kidsG]
    refine kidsG_mono h op n r (i + 1) ?_
    rw [key_both, key_both, key_kid, key_kid]
    exact le_omax hab (le_oup _ (expG_mono h x))
end
def Wit (g : List Nat) (u v : Nat → Lg) (a b : Option Int) : Prop := lt a b → ∃ e ∈ g, le b (v e).key ∧ lt (u e).key (v e).key
theorem Wit.max {g : List Nat} {u v : Nat → Lg} {a a' b b' : Option Int} (h : Wit g u v a b) (h' : Wit g u v a' b') : Wit g u v (omax a a') (omax b b') := by
  intro hlt
  have hb : omax b b' = b ∨ omax b b' = b' := by
    cases b <;> cases b' <;> simp only [omax]
    · exact .inl trivial
    · exact .inr trivial
    · exact .inl trivial
    · rename_i x y; rcases Int.le_total x y with h | h
      · right; rw [Int.max_eq_right h]
      · left; rw [Int.max_eq_left h]
  have h1 : le a (omax a a') := by cases a <;> cases a' <;> simp only [omax, le] <;> omega
  have h2 : le a' (omax a a') := by cases a <;> cases a' <;> simp only [omax, le] <;> omega
  rcases hb with hb | hb <;> rw [hb] at hlt ⊢
  · exact h fun hc => hlt (le_trans hc h1)
  · exact h' fun hc => hlt (le_trans hc h2)
theorem Wit.up {g : List Nat} {u v : Nat → Lg} {a b : Option Int} {k : Int} (hk : k ≤ 0) (h : Wit g u v a b) : Wit g u v (oup k a) (oup k b) := by
  intro hlt
  obtain ⟨e, he, h1, h2⟩ := h fun hc => hlt (le_oup k hc)
  refine ⟨e, he, le_trans ?_ h1, h2⟩
  cases b <;> simp only [oup, le]; omega
mutual
theorem expG_wit {g : List Nat} {u v : Nat → Lg} (h : ∀ d, d ∉ g → u d = v d) : ∀ e, (∀ x ∈ allE e, x.fore = false ∧ (x.op = 2 ∨ x.op = 3 → 0 ≤ x.n)) → Wit g u v (expG srcs names u s e).key (expG srcs names v s e).key
  | .mk op name n fold calcs kids, he => by
    have h0 := he (.mk op name n fold calcs kids) (by rw [allE]; exact List.mem_cons_self ..)
    rw [expG, expG]
    split
    · exact fun hc => absurd (le_refl _) hc
    · split
      · rename_i hop
        have hn : 0 ≤ n := h0.2 hop
        rw [key_thru, key_thru]
        refine Wit.up (by omega) fun hlt => ?_
        by_cases hd : idxN names name ∈ g
        · exact ⟨_, hd, le_refl _, hlt⟩
        · rw [h _ hd] at hlt; exact absurd (le_refl _) hlt
      · have h1 : op ≠ 14 ∧ (op = 7 → 0 ≤ n) := by
          have := h0.1
          unfold Exp.fore at this
          rw [Bool.or_eq_false_iff] at this
          refine ⟨by simpa [Exp.op] using this.1, fun h7 => ?_⟩
          have h2 := this.2
          simp only [Exp.op, Exp.n, h7, beq_self_eq_true, Bool.true_and] at h2
          have := of_decide_eq_false h2
          omega
        exact kidsG_wit h op n h1 kids 0 (fun x hx => he x (by rw [allE]; exact List.mem_cons_of_mem _ hx)) (fun hc => absurd (le_refl _) hc)
theorem kidsG_wit {g : List Nat} {u v : Nat → Lg} (h : ∀ d, d ∉ g → u d = v d) (op n : Int) (hop : op ≠ 14 ∧ (op = 7 → 0 ≤ n)) : ∀ (l : List Exp) (i : Nat) {a b : Lg}, (∀ x ∈ allEs l, x.fore = false ∧ (x.op = 2 ∨ x.op = 3 → 0 ≤ x.n)) → Wit g u v a.key b.key → Wit g u v (kidsG srcs names u s op n l i a).key (kidsG srcs names v s op n l i b).key
  | [], _, _, _, _, hab => by rw [kidsG, kidsG]; exact hab
  | x :: r, i, a, b, he, hab => by
    rw [kidsG, kidsG]
    refine kidsG_wit h op n hop r (i + 1) (fun y hy => he y (by rw [allEs]; exact List.mem_append_right _ hy)) ?_
    rw [key_both, key_both, key_kid, key_kid]
    refine hab.max (Wit.up ?_ (expG_wit h x fun y hy => he y (by rw [allEs]; exact List.mem_append_left _ hy)))
    unfold foreK
    split
    · rename_i h7; have := hop.2 h7; omega
    · rw [if_neg hop.1]; exact Int.le_refl _
end
end
end Go.Abs

/- The logic: ends of drawn regions at any addresses; slices of rows; rows as data. -/
namespace Go.Abs
variable {C : Cfg} {fid nt : Nat} {l : Env} {G : Nat → Obj} {nx : Nat} {df : List (AV × List AV)} {pk : Pk} {Φ : Out → Prop} {a b : Code} {id : Nat}
variable {ol r : List Oper} {base i d : Nat} {ty : TypeId} {pos : String} {af : Array Edge} {v : AV} {ups : List (Nat × U)}
theorem peek_row1 {o n et sz : Nat} {xs : List IV} {fr : Bool} (h : G o = .row et sz (xs.map .imm) fr) (hn : xs.length = n) : Go.Abs.peek G pkDepth (.row o n) = some (.lst xs, [o]) := by
  have hp : ∀ x, Go.Abs.peek G 99 (.imm x) = some (x, []) := fun x => rfl
  show Go.Abs.peek G (99 + 1) _ = _
  unfold Go.Abs.peek
  rw [h]
  dsimp only
  rw [if_pos (by simpa using hn), peekL_imm hp]
theorem peeks_nil : peeks G [] = some ([], []) := rfl
theorem peeks_one {v : AV} {x : IV} {ids ids2 : List Nat} {vs : List AV} {xs : List IV} (h : Go.Abs.peek G pkDepth v = some (x, ids)) (hr : peeks G vs = some (xs, ids2)) : peeks G (v :: vs) = some (x :: xs, ids ++ ids2) := by
  unfold peeks at hr ⊢
  rw [peekL, h, hr]
theorem peeks_im {x : IV} {ids2 : List Nat} {vs : List AV} {xs : List IV} (hr : peeks G vs = some (xs, ids2)) : peeks G (.imm x :: vs) = some (x :: xs, ids2) := peeks_one (ids := []) rfl hr
theorem D.gen' {fs : List Fp} (P : (Nat → Obj) → Prop) (h0 : P G) (h : ∀ G, P G → D C nt ol base i r l G nx df pk fs Φ) : D C nt ol base i r l G nx df pk fs Φ := h _ h0
/-! what is read may be said to be more -/
theorem D.callB {f : Operand} {ars : List Operand} {ats : Array TypeId} {vs cap : List AV} {fv : AV} {k : FuncId} {fs : List Fp} (hf : lookO l f = some fv) (hfn : fnOf fv = some (.func k, cap)) (hb : C.byref k = true) (ha : looks l ars = some vs) (hd : Nat.ble (d + 1) nt = true)
    (hk : (pivot ⟨ol⟩ i && drawOK ⟨ol⟩ fs.reverse) = true) (hr : Cal C k (vs ++ cap) G nx fun v G' nx' => D C nt ol base (i + 1) r ((d, v) :: l) G' nx' df pk [] Φ) :
    D C nt ol base i (⟨some d, .call { callee := .value f, args := ⟨ars⟩, argTypes := ats }, ty, pos, af, none⟩ :: r) l G nx df pk fs Φ := by
  obtain ⟨n, v, G', nx', h1, h2⟩ := hr
  refine .mk fun t ht => ?_
  obtain ⟨m, s', fs', h3, h4, h5⟩ := h2.st (upd t d v) (ht.put d v)
  have hop : opA C (low C n) (base + i) ⟨t, G, nx, df, pk⟩ (.call { callee := .value f, args := ⟨ars⟩, argTypes := ats }) = some (.wr v ⟨t, G', nx', df, pk⟩) := by
    simp only [opA, ht.ev hf, ht.evs ha]
    have : aCall C (low C n) (base + i) ⟨t, G, nx, df, pk⟩ fv vs = callA C (low C n) (base + i) ⟨t, G, nx, df, pk⟩ k (vs ++ cap) := by
      unfold aCall
      split
      · cases hfn
      · rw [hfn]
    rw [this]
    simp only [callA, hb, if_true, h1]
  refine ⟨max n m, s', fs', ?_, h4, h5⟩
  have hlt : d < nt := Nat.le_of_ble_eq_true hd
  unfold runE stepP stepD stepA
  simp only [wantA, opA_mono (low_mono (Nat.le_max_left n m)) hop, Go.Abs.put, if_pos hlt, if_pos hk]
  exact runE_mono (low_mono (Nat.le_max_right n m)) _ _ _ _ h3
theorem O.min {x y : Operand} {t u : TypeId} {m n : Int} {k : IntKind} (hx : lookO l x = some (.imm (.int k m))) (hy : lookO l y = some (.imm (.int k n))) : OpV C id l G nx df pk (.call { callee := .builtin .min, args := #[x, y], argTypes := #[t, u] }) (.imm (.int k (if n < m then n else m))) [] :=
  O.of fun t' L hA => by simp only [opA, List.map_cons, List.map_nil, hA.ev hx, hA.ev hy, aBuiltin]
theorem O.loadRA {x : Operand} {t et : TypeId} {k : TyI} {o m n sz : Nat} {xs us : List AV} {fr : Bool} {u : AV} [hk : TyIs C t k] (hx : lookO l x = some (.rptr o m n 0)) (hG : G o = .row et sz xs fr) (hm : xs.length = m) (hu : xs[n]? = some u)
    (hc : Go.Abs.sub u.cells 0 k.sz = some us) (hg : k.d.isAgg = true) : OpV C id l G nx df pk (.load t x) (mkAgg us) [] :=
  O.of fun t L hA => by simp [opA, hA.ev hx, aLoad, hk.is, hg, readAt, hG, hm, hu, hc]
theorem mul64 {m n : Int} (h : -9223372036854775808 ≤ m * n ∧ m * n ≤ 9223372036854775807) : intOp .mul .i64 m n = some (.int .i64 (m * n)) := by simp only [intOp, wrap64 h]
theorem O.neg {t : TypeId} {x : Operand} {n : Int} {id : Nat} {l : Env} {G : Nat → Obj} {nx : Nat} {df : List (AV × List AV)} {pk : Pk} {C : Cfg} (hx : lookO l x = some (.imm (.int .i64 n))) (h : -9223372036854775807 ≤ n ∧ n ≤ 9223372036854775807) : OpV C id l G nx df pk (.unOp .neg t x) (.imm (.int .i64 (-n))) [] :=
  O.of fun t L ht => by
    have : IntKind.i64.wrap (0 - n) = -n := by rw [wrap64 (by omega)]; omega
    simp only [opA, ht.ev hx, unA, this]
end Go.Abs

/- One step of the logic after the other, as far as it goes, with memory. -/
open Go Go.Abs
namespace Go.Abs
set_option maxRecDepth 100000
theorem OA {C : Cfg} {id : Nat} {l : Env} {G : Nat → Obj} {nx : Nat} {df : List (AV × List AV)} {pk : Pk} {o : Op} {v : AV} 
    (h : OpV C id l G nx df pk o v [] := by first | exact O.move rfl | exact O.assign rfl | exact O.fieldP rfl rfl rfl rfl | exact O.loadP rfl rfl rfl (by first | exact rfl | with_reducible assumption | assumption | exact at_upd) rfl | exact O.cmp rfl rfl rfl | exact O.int rfl rfl (add64 (by omega)) | exact O.int rfl rfl (sub64 (by omega)) | exact O.int rfl rfl (add8 (by omega)) | exact O.pickT rfl (by first | with_reducible rfl | with_reducible assumption | decide) rfl | exact O.pickF rfl (by first | with_reducible rfl | with_reducible assumption | decide) rfl | exact O.lenL rfl rfl | exact O.lenSv rfl rfl | exact O.lenS rfl rfl | exact O.not rfl | exact O.neg rfl (by omega) | exact O.int rfl rfl (mul64 (by omega)) | exact O.svEq rfl rfl | exact O.svNe rfl rfl | exact O.str rfl rfl rfl | exact O.boolEq rfl rfl rfl | exact O.boolNe rfl rfl rfl | exact O.fieldE rfl rfl rfl rfl | exact O.fieldR rfl rfl rfl rfl | exact O.loadPA rfl rfl (by first | exact rfl | with_reducible assumption | assumption | exact at_upd) rfl rfl | exact O.extr rfl rfl | exact O.nilP rfl | exact O.nilF rfl | exact O.extrT rfl rfl | exact O.makeFunc rfl rfl rfl | exact O.fieldF rfl rfl rfl rfl | exact O.loadF rfl rfl rfl rfl | exact O.loadFA rfl rfl rfl | exact O.ptrEq rfl rfl rfl rfl | exact O.ptrNe rfl rfl rfl rfl | exact O.max rfl rfl | exact O.min rfl rfl | (apply O.addrX; exact rfl; infer_instance; exact rfl; exact rfl; omega; (first | with_reducible assumption | assumption); (first | exact rfl | assumption)) | (apply O.load1; exact rfl; (first | with_reducible assumption | assumption); exact rfl; exact rfl; exact rfl) | (apply O.loadE; exact rfl; exact rfl; exact rfl; (first | with_reducible assumption | assumption); exact rfl) | (apply O.loadEA; exact rfl; exact rfl; (first | with_reducible assumption | assumption); exact rfl) | (apply O.call; exact rfl; exact rfl; (first | with_reducible assumption | assumption)) | (apply O.addrRX; exact rfl; infer_instance; exact rfl; exact rfl; (first | with_reducible assumption | assumption); (first | exact rfl | with_reducible assumption | assumption | exact List.length_map ..); omega; exact rfl) | (apply O.loadRX; exact rfl; (first | with_reducible assumption | assumption); (first | exact rfl | with_reducible assumption | assumption | exact List.length_map ..); (first | with_reducible assumption | assumption); exact rfl; exact rfl; exact rfl) | (apply O.loadRA;  exact rfl; (first | with_reducible assumption | assumption); (first | exact rfl | with_reducible assumption | assumption | exact List.length_map ..); (first | with_reducible assumption | assumption); exact rfl; exact rfl) | (apply O.lenO; exact rfl; exact rfl; (first | with_reducible assumption | assumption)) | (apply O.lenR; exact rfl; exact rfl; (first | exact rfl | with_reducible assumption | assumption | exact at_upd); (first | exact rfl | with_reducible assumption | assumption | exact List.length_map ..)) | (apply O.build; exact rfl; exact rfl; exact rfl; exact rfl) | (apply O.callV; exact rfl; infer_instance; exact rfl; exact rfl; (first | with_reducible assumption | assumption)) | (apply O.lookA; exact rfl; infer_instance; infer_instance; exact rfl; exact rfl; exact rfl; (first | with_reducible assumption | assumption))) : OpV C id l G nx df pk o v [] := h
theorem OB {C : Cfg} {id : Nat} {l : Env} {G : Nat → Obj} {nx : Nat} {df : List (AV × List AV)} {pk : Pk} {o : Op} {v : AV} {q : Nat} {x : Obj}
    (h : OpV C id l G nx df pk o v [(q, .set x)] := by first | exact O.boxS rfl rfl rfl | exact O.alloc rfl rfl | exact O.makeMap | (apply O.buildX; exact rfl; infer_instance; exact rfl; exact rfl; decide; exact rfl; exact rfl; decide)) : OpV C id l G nx df pk o v [(q, .set x)] := h
theorem ON {C : Cfg} {id : Nat} {l : Env} {G : Nat → Obj} {nx : Nat} {df : List (AV × List AV)} {pk : Pk} {o : Op} {v : AV} {q : Nat} {x : Obj}
    (h : OpV C id l G nx df pk o v [(q, .set x)] := by first | (apply O.storeP; exact rfl; exact rfl; exact rfl; (first | exact rfl | with_reducible assumption | assumption | exact at_upd); exact rfl; exact rfl) | (apply O.storeP1; exact rfl; exact rfl; exact rfl; assumption; assumption; (first | exact rfl | with_reducible assumption | assumption | exact at_upd); exact rfl; exact rfl)) : OpV C id l G nx df pk o v [(q, .set x)] := h
theorem BB {P Q : Prop} (k : Q) (h : Hold Q → P := by
  intro k
  (repeat (first | (apply R.op0; exact OA; exact rfl) | (apply R.op1; exact OB; exact rfl) | (apply R.opN1; exact ON) | (apply R.guardT1; exact rfl; exact rfl; (first | with_reducible rfl | with_reducible assumption | decide)) | (apply R.guardT0; exact rfl; exact rfl; (first | with_reducible rfl | with_reducible assumption | decide)) | (apply R.guardF1; exact rfl; exact rfl; (first | with_reducible rfl | with_reducible assumption | decide); exact rfl) | (apply R.guardF0; exact rfl; exact rfl; (first | with_reducible rfl | with_reducible assumption | decide); exact rfl) | (apply R.guardN; exact rfl; exact rfl; exact rfl) | apply R.done | apply W.seq | apply W.regionN | apply W.drawN | apply W.block | apply W.scope | apply W.label | (apply W.condT; exact rfl; (first | with_reducible rfl | with_reducible assumption | decide)) | (apply W.condF; exact rfl; (first | with_reducible rfl | with_reducible assumption | decide)) | apply W.retAft | apply W.retBlk | apply W.retLop | apply W.exitAft | apply W.exitLop | apply W.exitBlk | (apply W.exitBlkNe; exact rfl) | apply W.skipAft | apply W.skipBlk | apply W.retCut | apply W.exitCut | apply R.skip | (apply D.op0; exact OA; exact rfl; exact rfl) | (apply D.op1; exact OB; exact rfl; exact rfl) | (apply D.opN1; exact ON; exact rfl) | (apply D.guardT1; exact rfl; exact rfl; (first | with_reducible rfl | with_reducible assumption | decide)) | (apply D.guardT0; exact rfl; exact rfl; (first | with_reducible rfl | with_reducible assumption | decide)) | (apply D.guardF1; exact rfl; exact rfl; (first | with_reducible rfl | with_reducible assumption | decide); exact rfl) | (apply D.guardF0; exact rfl; exact rfl; (first | with_reducible rfl | with_reducible assumption | decide); exact rfl) | (apply D.guardN; exact rfl; exact rfl; exact rfl) | (apply D.done; kernel_rfl) | (apply D.skip; kernel_rfl)))
  exact Hold.out k) : P := h ⟨k⟩
theorem BN {P Q : Prop} (k : Q) (h : Hold Q → P := by
  intro k
  (repeat (first | (apply R.op0; exact OA; exact rfl) | (apply R.op1; exact OB; exact rfl) | (apply R.opN1; exact ON) | (apply R.guardT1; exact rfl; exact rfl; (first | with_reducible rfl | with_reducible assumption | decide)) | (apply R.guardT0; exact rfl; exact rfl; (first | with_reducible rfl | with_reducible assumption | decide)) | (apply R.guardF1; exact rfl; exact rfl; (first | with_reducible rfl | with_reducible assumption | decide); exact rfl) | (apply R.guardF0; exact rfl; exact rfl; (first | with_reducible rfl | with_reducible assumption | decide); exact rfl) | (apply R.guardN; exact rfl; exact rfl; exact rfl) | apply R.done | apply W.seq | apply W.regionN | apply W.drawN | apply W.block | apply W.scope | apply W.label | (apply W.condT; exact rfl; (first | with_reducible rfl | with_reducible assumption | decide)) | (apply W.condF; exact rfl; (first | with_reducible rfl | with_reducible assumption | decide)) | apply W.retAft | apply W.retBlk | apply W.retLop | apply W.exitAft | apply W.exitLop | apply W.exitBlk | (apply W.exitBlkNe; exact rfl) | apply W.skipAft | apply W.skipBlk | apply W.retCut | apply W.exitCut | apply R.skip | (apply D.op0; exact OA; exact rfl; exact rfl) | (apply D.op1; exact OB; exact rfl; exact rfl) | (apply D.opN1; exact ON; exact rfl) | (apply D.guardT1; exact rfl; exact rfl; (first | with_reducible rfl | with_reducible assumption | decide)) | (apply D.guardT0; exact rfl; exact rfl; (first | with_reducible rfl | with_reducible assumption | decide)) | (apply D.guardF1; exact rfl; exact rfl; (first | with_reducible rfl | with_reducible assumption | decide); exact rfl) | (apply D.guardF0; exact rfl; exact rfl; (first | with_reducible rfl | with_reducible assumption | decide); exact rfl) | (apply D.guardN; exact rfl; exact rfl; exact rfl) | refine D.auto ?_))
  exact Hold.out k) : P := h ⟨k⟩
theorem BD {P Q : Prop} (k : Q) (h : Hold Q → P := by
  intro k
  (repeat (first | (apply D.op0; exact OA; exact rfl; exact rfl) | (apply D.op1; exact OB; exact rfl; exact rfl) | (apply D.opN1; exact ON; exact rfl) | (apply D.guardT1; exact rfl; exact rfl; (first | with_reducible rfl | with_reducible assumption | decide)) | (apply D.guardT0; exact rfl; exact rfl; (first | with_reducible rfl | with_reducible assumption | decide)) | (apply D.guardF1; exact rfl; exact rfl; (first | with_reducible rfl | with_reducible assumption | decide); exact rfl) | (apply D.guardF0; exact rfl; exact rfl; (first | with_reducible rfl | with_reducible assumption | decide); exact rfl) | (apply D.guardN; exact rfl; exact rfl; exact rfl)))
  exact Hold.out k) : P := h ⟨k⟩
end Go.Abs

/- Lags, one by one: what both sides compute of them. -/
open Go Go.Abs
namespace Go.Abs
set_option maxRecDepth 100000
set_option maxHeartbeats 4000000
def ty447 : TyI := { d := TyD.st [(0, 1), (1, 1), (2, 1), (3, 1)], sz := 4, bytes := 24, zero := AV.imm (IV.agg [IV.bool false, IV.bool false, IV.int IntKind.i64 (0), IV.int IntKind.i64 (0)]) }
instance tyis447 : TyIs CC 147 ty447 := ⟨by kernel_rfl⟩
def ty453 : TyI := { d := TyD.st [(0, 1), (1, 1), (2, 1), (3, 1)], sz := 4, bytes := 24, zero := AV.imm (IV.agg [IV.bool false, IV.bool false, IV.int IntKind.i64 (0), IV.int IntKind.i64 (0)]) }
instance tyis453 : TyIs CC 153 ty453 := ⟨by kernel_rfl⟩
instance fnis446 : FnIs CC 146 := ⟨rfl, fun _ => rfl⟩
instance fnis455 : FnIs CC 155 := ⟨rfl, fun _ => rfl⟩
instance fnis456 : FnIs CC 156 := ⟨rfl, fun _ => rfl⟩
instance fnis451 : FnIs CC 151 := ⟨rfl, fun _ => rfl⟩
instance fnis453 : FnIs CC 153 := ⟨rfl, fun _ => rfl⟩
instance fnis441 : FnIs CC 141 := ⟨rfl, fun _ => rfl⟩
structure Lg.In (K : Int) (a : Lg) : Prop where
  back : -K ≤ a.back ∧ a.back ≤ K
  ahead : -K ≤ a.ahead ∧ a.ahead ≤ K
theorem Lg.iv_mk (on e : Bool) (b f : Int) : Lg.iv ⟨on, e, b, f⟩ = .agg [.bool on, .bool e, .int .i64 b, .int .i64 f] := rfl
theorem ret446 {a : Lg} {ev : Bool} {bk ah : Int} (h : a.In 4294967296) (hb : -4294967296 ≤ bk ∧ bk ≤ 4294967296) (ha : -4294967296 ≤ ah ∧ ah ≤ 4294967296) : Ret CC 146 [a.iv, .bool ev, .int .i64 bk, .int .i64 ah] (a.thru ev bk ah).iv := by
  obtain ⟨h1, h2⟩ := h
  obtain ⟨on, e, b, f⟩ := a
  simp only at h1 h2
  rw [Lg.iv_mk]
  refine Ret.of (fn := Go.Proofs.Tryz.f146) (by kernel_rfl) rfl rfl ?_
  cases on
  · refine BB ?_
    exact W.retFinCA rfl rfl rfl rfl ⟨[], rfl⟩
  · cases e <;> cases ev
    all_goals
      refine BB ?_
      exact W.retFinCA rfl rfl rfl rfl ⟨[], rfl⟩
theorem ret455 {a b : Lg} : Ret CC 155 [a.iv, b.iv] (a.both b).iv := by
  obtain ⟨on, e, b1, f⟩ := a
  obtain ⟨on', e', b2, f'⟩ := b
  rw [Lg.iv_mk, Lg.iv_mk]
  refine Ret.of (fn := Go.Proofs.Tryz.f155) (by kernel_rfl) rfl rfl ?_
  cases on
  · refine BB ?_
    exact W.retFinCA rfl rfl rfl rfl ⟨[], rfl⟩
  cases on'
  · refine BB ?_
    exact W.retFinCA rfl rfl rfl rfl ⟨[], rfl⟩
  cases e <;> cases e'
  all_goals
    refine BB ?_
    exact W.retFinCA rfl rfl rfl rfl ⟨[], rfl⟩
theorem ret453 {a b : Lg} : Ret CC 153 [a.iv, b.iv] (a.both b).iv := by
  obtain ⟨on, e, b1, f⟩ := a
  obtain ⟨on', e', b2, f'⟩ := b
  rw [Lg.iv_mk, Lg.iv_mk]
  refine Ret.of (fn := Go.Proofs.Tryz.f153) (by kernel_rfl) rfl rfl ?_
  cases on
  · refine BB ?_
    exact W.retFinCA rfl rfl rfl rfl ⟨[], rfl⟩
  cases on'
  · refine BB ?_
    exact W.retFinCA rfl rfl rfl rfl ⟨[], rfl⟩
  cases e <;> cases e'
  all_goals
    refine BB ?_
    exact W.retFinCA rfl rfl rfl rfl ⟨[], rfl⟩
theorem ret451 {a : Lg} {bk ah : Int} (hk : a.Ok) (h : a.In 4294967296) (hb : -4294967296 ≤ bk ∧ bk ≤ 4294967296) (ha : -4294967296 ≤ ah ∧ ah ≤ 4294967296) : Ret CC 151 [a.iv, .int .i64 bk, .int .i64 ah] (a.thru false bk ah).iv := by
  obtain ⟨h1, h2⟩ := h
  have h3 := hk.back
  obtain ⟨on, e, b, f⟩ := a
  simp only at h1 h2 h3
  rw [Lg.iv_mk]
  refine Ret.of (fn := Go.Proofs.Tryz.f151) (by kernel_rfl) rfl rfl ?_
  cases on
  · refine BB ?_
    exact W.retFinCA rfl rfl rfl rfl ⟨[], rfl⟩
  · cases e
    · refine BB ?_
      exact W.retFinCA rfl rfl rfl rfl ⟨[], rfl⟩
    · obtain rfl := h3 rfl
      refine BB ?_
      exact W.retFinCA rfl rfl rfl rfl ⟨[], rfl⟩
theorem ret441 {a : Lg} : Ret CC 141 [a.iv] (a.thru true 0 0).iv := by
  obtain ⟨on, e, b, f⟩ := a
  have hf : f + 0 = f := Int.add_zero f
  rw [Lg.iv_mk]
  refine Ret.of (fn := Go.Proofs.Tryz.f141) (by kernel_rfl) rfl rfl ?_
  cases on
  · refine BB ?_
    exact W.retFinCA rfl rfl rfl rfl ⟨[], rfl⟩
  · cases e
    all_goals
      simp only [Lg.thru, if_true, Bool.or_true, hf]
      refine BB ?_
      exact W.retFinCA rfl rfl rfl rfl ⟨[], rfl⟩
theorem ret456 {op n : Int} {i : Nat} {name : Str} {fold : Int} {calcs : List Trm} {kids : List Exp} {a : Lg} (h : a.In 4294967295) (hop : 1 ≤ op ∧ op ≤ 15) (hn : -50 ≤ n ∧ n ≤ 50) (hi : i ≤ 1) : Ret CC 156 [(Exp.mk op name n fold calcs kids).iv, natIV i, a.iv] (kidL op n i a).iv := by
  have hR := fun ev bk ah => ret446 (a := a) (ev := ev) (bk := bk) (ah := ah) ⟨⟨by have := h.back; omega, by have := h.back; omega⟩, ⟨by have := h.ahead; omega, by have := h.ahead; omega⟩⟩
  have hi : i = 0 ∨ i = 1 := by omega
  refine Ret.of (fn := Go.Proofs.Tryz.f156) (by kernel_rfl) rfl rfl ?_
  rcases hi with rfl | rfl
  · rcases ops15 op with rfl | rfl | rfl | rfl | rfl | rfl | rfl | rfl | rfl | rfl | rfl | rfl | rfl | rfl | rfl | hno
    · rw [show kidL 1 n 0 a = a from rfl]
      obtain ⟨on, e, b, f⟩ := a
      refine BB ?_
      exact W.retFinCA rfl rfl rfl rfl ⟨[], rfl⟩
    · rw [show kidL 2 n 0 a = a from rfl]
      obtain ⟨on, e, b, f⟩ := a
      refine BB ?_
      exact W.retFinCA rfl rfl rfl rfl ⟨[], rfl⟩
    · rw [show kidL 3 n 0 a = a from rfl]
      obtain ⟨on, e, b, f⟩ := a
      refine BB ?_
      exact W.retFinCA rfl rfl rfl rfl ⟨[], rfl⟩
    · rw [show kidL 4 n 0 a = a from rfl]
      obtain ⟨on, e, b, f⟩ := a
      refine BB ?_
      exact W.retFinCA rfl rfl rfl rfl ⟨[], rfl⟩
    · rw [show kidL 5 n 0 a = a from rfl]
      obtain ⟨on, e, b, f⟩ := a
      refine BB ?_
      exact W.retFinCA rfl rfl rfl rfl ⟨[], rfl⟩
    · rw [show kidL 6 n 0 a = a from rfl]
      obtain ⟨on, e, b, f⟩ := a
      refine BB ?_
      exact W.retFinCA rfl rfl rfl rfl ⟨[], rfl⟩
    · have h1 := hR false n (-n) (by omega) (by omega)
      rw [show kidL 7 n 0 a = a.thru false n (-n) from rfl]
      generalize a.thru = A at *
      obtain ⟨on, e, b, f⟩ := a
      refine BB ?_
      exact W.retFinCA rfl rfl rfl rfl ⟨[], rfl⟩
    · have h1 := hR false (n - 1) 0 (by omega) (by omega)
      rw [show kidL 8 n 0 a = a.thru false (n - 1) 0 from rfl]
      generalize a.thru = A at *
      obtain ⟨on, e, b, f⟩ := a
      refine BB ?_
      exact W.retFinCA rfl rfl rfl rfl ⟨[], rfl⟩
    · have h1 := hR false n 0 (by omega) (by omega)
      rw [show kidL 9 n 0 a = a.thru false n 0 from rfl]
      generalize a.thru = A at *
      obtain ⟨on, e, b, f⟩ := a
      refine BB ?_
      exact W.retFinCA rfl rfl rfl rfl ⟨[], rfl⟩
    · have h1 := hR true 0 0 (by omega) (by omega)
      rw [show kidL 10 n 0 a = a.thru true 0 0 from rfl]
      generalize a.thru = A at *
      obtain ⟨on, e, b, f⟩ := a
      refine BB ?_
      exact W.retFinCA rfl rfl rfl rfl ⟨[], rfl⟩
    · have h1 := hR true 0 0 (by omega) (by omega)
      rw [show kidL 11 n 0 a = a.thru true 0 0 from rfl]
      generalize a.thru = A at *
      obtain ⟨on, e, b, f⟩ := a
      refine BB ?_
      exact W.retFinCA rfl rfl rfl rfl ⟨[], rfl⟩
    · have h1 := hR false n 0 (by omega) (by omega)
      rw [show kidL 12 n 0 a = a.thru false n 0 from rfl]
      generalize a.thru = A at *
      obtain ⟨on, e, b, f⟩ := a
      refine BB ?_
      exact W.retFinCA rfl rfl rfl rfl ⟨[], rfl⟩
    · have h1 := hR (0 == 1) 0 0 (by omega) (by omega)
      rw [show kidL 13 n 0 a = a.thru (0 == 1) 0 0 from rfl]
      generalize a.thru = A at *
      obtain ⟨on, e, b, f⟩ := a
      refine BB ?_
      exact W.retFinCA rfl rfl rfl rfl ⟨[], rfl⟩
    · have h1 := hR false (n * ((0 : Nat) : Int)) (n * ((0 : Nat) : Int)) (by omega) (by omega)
      rw [show kidL 14 n 0 a = a.thru false (n * ((0 : Nat) : Int)) (n * ((0 : Nat) : Int)) from rfl]
      generalize a.thru = A at *
      obtain ⟨on, e, b, f⟩ := a
      refine BB ?_
      exact W.retFinCA rfl rfl rfl rfl ⟨[], rfl⟩
    · rw [show kidL 15 n 0 a = a from rfl]
      obtain ⟨on, e, b, f⟩ := a
      refine BB ?_
      exact W.retFinCA rfl rfl rfl rfl ⟨[], rfl⟩
    · omega
  · rcases ops15 op with rfl | rfl | rfl | rfl | rfl | rfl | rfl | rfl | rfl | rfl | rfl | rfl | rfl | rfl | rfl | hno
    · rw [show kidL 1 n 1 a = a from rfl]
      obtain ⟨on, e, b, f⟩ := a
      refine BB ?_
      exact W.retFinCA rfl rfl rfl rfl ⟨[], rfl⟩
    · rw [show kidL 2 n 1 a = a from rfl]
      obtain ⟨on, e, b, f⟩ := a
      refine BB ?_
      exact W.retFinCA rfl rfl rfl rfl ⟨[], rfl⟩
    · rw [show kidL 3 n 1 a = a from rfl]
      obtain ⟨on, e, b, f⟩ := a
      refine BB ?_
      exact W.retFinCA rfl rfl rfl rfl ⟨[], rfl⟩
    · rw [show kidL 4 n 1 a = a from rfl]
      obtain ⟨on, e, b, f⟩ := a
      refine BB ?_
      exact W.retFinCA rfl rfl rfl rfl ⟨[], rfl⟩
    · rw [show kidL 5 n 1 a = a from rfl]
      obtain ⟨on, e, b, f⟩ := a
      refine BB ?_
      exact W.retFinCA rfl rfl rfl rfl ⟨[], rfl⟩
    · rw [show kidL 6 n 1 a = a from rfl]
      obtain ⟨on, e, b, f⟩ := a
      refine BB ?_
      exact W.retFinCA rfl rfl rfl rfl ⟨[], rfl⟩
    · have h1 := hR false n (-n) (by omega) (by omega)
      rw [show kidL 7 n 1 a = a.thru false n (-n) from rfl]
      generalize a.thru = A at *
      obtain ⟨on, e, b, f⟩ := a
      refine BB ?_
      exact W.retFinCA rfl rfl rfl rfl ⟨[], rfl⟩
    · have h1 := hR false (n - 1) 0 (by omega) (by omega)
      rw [show kidL 8 n 1 a = a.thru false (n - 1) 0 from rfl]
      generalize a.thru = A at *
      obtain ⟨on, e, b, f⟩ := a
      refine BB ?_
      exact W.retFinCA rfl rfl rfl rfl ⟨[], rfl⟩
    · have h1 := hR false n 0 (by omega) (by omega)
      rw [show kidL 9 n 1 a = a.thru false n 0 from rfl]
      generalize a.thru = A at *
      obtain ⟨on, e, b, f⟩ := a
      refine BB ?_
      exact W.retFinCA rfl rfl rfl rfl ⟨[], rfl⟩
    · have h1 := hR true 0 0 (by omega) (by omega)
      rw [show kidL 10 n 1 a = a.thru true 0 0 from rfl]
      generalize a.thru = A at *
      obtain ⟨on, e, b, f⟩ := a
      refine BB ?_
      exact W.retFinCA rfl rfl rfl rfl ⟨[], rfl⟩
    · have h1 := hR true 0 0 (by omega) (by omega)
      rw [show kidL 11 n 1 a = a.thru true 0 0 from rfl]
      generalize a.thru = A at *
      obtain ⟨on, e, b, f⟩ := a
      refine BB ?_
      exact W.retFinCA rfl rfl rfl rfl ⟨[], rfl⟩
    · have h1 := hR false n 0 (by omega) (by omega)
      rw [show kidL 12 n 1 a = a.thru false n 0 from rfl]
      generalize a.thru = A at *
      obtain ⟨on, e, b, f⟩ := a
      refine BB ?_
      exact W.retFinCA rfl rfl rfl rfl ⟨[], rfl⟩
    · have h1 := hR (1 == 1) 0 0 (by omega) (by omega)
      rw [show kidL 13 n 1 a = a.thru (1 == 1) 0 0 from rfl]
      generalize a.thru = A at *
      obtain ⟨on, e, b, f⟩ := a
      refine BB ?_
      exact W.retFinCA rfl rfl rfl rfl ⟨[], rfl⟩
    · have h1 := hR false (n * ((1 : Nat) : Int)) (n * ((1 : Nat) : Int)) (by omega) (by omega)
      rw [show kidL 14 n 1 a = a.thru false (n * ((1 : Nat) : Int)) (n * ((1 : Nat) : Int)) from rfl]
      generalize a.thru = A at *
      obtain ⟨on, e, b, f⟩ := a
      refine BB ?_
      exact W.retFinCA rfl rfl rfl rfl ⟨[], rfl⟩
    · rw [show kidL 15 n 1 a = a from rfl]
      obtain ⟨on, e, b, f⟩ := a
      refine BB ?_
      exact W.retFinCA rfl rfl rfl rfl ⟨[], rfl⟩
    · omega
end Go.Abs

/- The groups of definitions, in their order. -/
open Go Go.Abs
namespace Go.Abs
set_option maxRecDepth 100000
noncomputable def grpR (tos : List (List Nat)) (d : Nat) : List Nat := ringTo (reachR tos) d tos.length
noncomputable def readyR (tos : List (List Nat)) (done : List Nat) (d : Nat) : Bool := !done.contains d && (List.range tos.length).all fun k => !reachB tos d k || done.contains k || (grpR tos d).contains k
noncomputable def nextR (tos : List (List Nat)) (done : List Nat) : Option Nat := (List.range tos.length).find? (readyR tos done)
noncomputable def orderTo (tos : List (List Nat)) : Nat → List Nat → List (List Nat)
  | 0, _ => []
  | f + 1, done => match nextR tos done with
    | none => []
    | some d => grpR tos d :: orderTo tos f (done ++ grpR tos d)
noncomputable def orderR (tos : List (List Nat)) : List (List Nat) := orderTo tos tos.length []
section
variable {tos : List (List Nat)}
theorem mem_grp {i j : Nat} (hi : i < tos.length) : j ∈ grpR tos i ↔ j < tos.length ∧ (j = i ∨ (Reach tos i j ∧ Reach tos j i)) := mem_ringTo hi
theorem grp_self {d : Nat} (hd : d < tos.length) : d ∈ grpR tos d := (mem_grp hd).2 ⟨hd, .inl rfl⟩
theorem grp_same {i j : Nat} (hi : i < tos.length) (hj : j ∈ grpR tos i) : grpR tos j = grpR tos i := by
  obtain ⟨hl, h⟩ := (mem_grp hi).1 hj
  rcases h with rfl | ⟨h1, h2⟩
  · rfl
  · exact (ringTo_same hi hl h1 h2).symm
theorem grp_nodup (d : Nat) : (grpR tos d).Nodup := List.Pairwise.filter _ List.nodup_range
theorem grp_lt {d k : Nat} (h : k ∈ grpR tos d) : k < tos.length := by
  unfold grpR ringTo at h
  exact List.mem_range.1 (List.mem_filter.1 h).1
theorem ready_iff {done : List Nat} {d : Nat} : readyR tos done d = true ↔ d ∉ done ∧ ∀ k, k < tos.length → Reach tos d k → k ∈ done ∨ k ∈ grpR tos d := by
  unfold readyR
  rw [Bool.and_eq_true, List.all_eq_true, Bool.not_eq_true', List.contains_eq_mem, decide_eq_false_iff_not]
  refine and_congr Iff.rfl ⟨fun h k hk hr => ?_, fun h k hk => ?_⟩
  · have := h k (List.mem_range.2 hk)
    rw [reachB_iff.2 hr] at this
    simpa [List.contains_iff_mem] using this
  · by_cases hr : reachB tos d k = true
    · have := h k (List.mem_range.1 hk) (reachB_iff.1 hr)
      simpa [hr, List.contains_iff_mem] using this
    · simp [hr]
structure DoneIs (tos : List (List Nat)) (done : List Nat) : Prop where
  nodup : done.Nodup
  lt : ∀ d ∈ done, d < tos.length
  whole : ∀ d ∈ done, ∀ k ∈ grpR tos d, k ∈ done
theorem DoneIs.nil : DoneIs tos [] := ⟨List.nodup_nil, fun _ h => absurd h List.not_mem_nil, fun _ h => absurd h List.not_mem_nil⟩
theorem DoneIs.apart {done : List Nat} (h : DoneIs tos done) {d : Nat} (hd : d < tos.length) (hn : d ∉ done) {k : Nat} (hk : k ∈ grpR tos d) : k ∉ done := fun hkd =>
  hn (h.whole k hkd d (by rw [grp_same hd hk]; exact grp_self hd))
theorem DoneIs.step {done : List Nat} (h : DoneIs tos done) {d : Nat} (hd : d < tos.length) (hn : d ∉ done) : DoneIs tos (done ++ grpR tos d) where
  nodup := List.nodup_append.2 ⟨h.nodup, grp_nodup d, fun a ha b hb hab => h.apart hd hn hb (hab ▸ ha)⟩
  lt := fun k hk => by
    rcases List.mem_append.1 hk with hk | hk
    · exact h.lt k hk
    · exact grp_lt hk
  whole := fun e he k hk => by
    rcases List.mem_append.1 he with he | he
    · exact List.mem_append_left _ (h.whole e he k hk)
    · rw [grp_same hd he] at hk
      exact List.mem_append_right _ hk
theorem DoneIs.len {done : List Nat} (h : DoneIs tos done) : done.length ≤ tos.length := nodup_lt h.nodup h.lt
theorem DoneIs.all {done : List Nat} (h : DoneIs tos done) (hl : tos.length ≤ done.length) {d : Nat} (hd : d < tos.length) : d ∈ done := Classical.byContradiction fun hn => by
  have := nodup_lt (a := d :: done) (n := tos.length) (List.nodup_cons.2 ⟨hn, h.nodup⟩) (fun x hx => by
    rcases List.mem_cons.1 hx with rfl | hx
    · exact hd
    · exact h.lt x hx)
  simp only [List.length_cons] at this; omega
theorem DoneIs.some {done : List Nat} (hl : done.length < tos.length) : ∃ d, d < tos.length ∧ d ∉ done := Classical.byContradiction fun hn => by
  have := nodup_le (List.range tos.length) done List.nodup_range (fun x hx => Classical.byContradiction fun hc => hn ⟨x, List.mem_range.1 hx, hc⟩)
  rw [List.length_range] at this; omega
noncomputable def downN (tos : List (List Nat)) (d : Nat) : List Nat := (List.range tos.length).filter fun k => k == d || reachB tos d k
theorem down_lt {d k : Nat} (hd : d < tos.length) (hk : Reach tos d k) (hg : k ∉ grpR tos d) (hkl : k < tos.length) : (downN tos k).length < (downN tos d).length := by
  have hnr : ¬ (d = k) ∧ ¬ Reach tos k d := by
    refine ⟨fun e => hg (e ▸ grp_self hd), fun h => hg ((mem_grp hd).2 ⟨hkl, .inr ⟨hk, h⟩⟩)⟩
  have := nodup_le (d :: downN tos k) (downN tos d) (List.nodup_cons.2 ⟨by
    unfold downN
    rw [List.mem_filter, Bool.or_eq_true, reachB_iff, beq_iff_eq]
    exact fun h => h.2.elim hnr.1 hnr.2, List.Pairwise.filter _ List.nodup_range⟩) (fun x hx => by
    unfold downN at hx ⊢
    rw [List.mem_filter, Bool.or_eq_true, reachB_iff, beq_iff_eq, List.mem_range]
    rcases List.mem_cons.1 hx with rfl | hx
    · exact ⟨hd, .inl rfl⟩
    · rw [List.mem_filter, Bool.or_eq_true, reachB_iff, beq_iff_eq, List.mem_range] at hx
      refine ⟨hx.1, .inr ?_⟩
      rcases hx.2 with rfl | h
      · exact hk
      · exact hk.trans h)
  simp only [List.length_cons] at this; omega
theorem ready_some (done : List Nat) : ∀ (m d : Nat), (downN tos d).length ≤ m → d < tos.length → d ∉ done → ∃ e, e < tos.length ∧ readyR tos done e = true := by
  intro m
  induction m with
  | zero =>
    intro d hm hd _
    have : d ∈ downN tos d := by unfold downN; rw [List.mem_filter]; exact ⟨List.mem_range.2 hd, by simp⟩
    have h0 : (downN tos d).length = 0 := by omega
    rw [List.eq_nil_of_length_eq_zero h0] at this
    exact absurd this List.not_mem_nil
  | succ m ih =>
    intro d hm hd hn
    by_cases hr : readyR tos done d = true
    · exact ⟨d, hd, hr⟩
    · rw [ready_iff] at hr
      have : ∃ k, k < tos.length ∧ Reach tos d k ∧ k ∉ done ∧ k ∉ grpR tos d := Classical.byContradiction fun hc => hr ⟨hn, fun k hk hdk => Classical.byContradiction fun hc2 => hc ⟨k, hk, hdk, fun h => hc2 (.inl h), fun h => hc2 (.inr h)⟩⟩
      obtain ⟨k, hk, hdk, h1, h2⟩ := this
      have := down_lt hd hdk h2 hk
      exact ih k (by omega) hk h1
theorem next_some {done : List Nat} (hl : done.length < tos.length) : ∃ d, nextR tos done = some d ∧ d < tos.length ∧ d ∉ done := by
  obtain ⟨d, hd, hn⟩ := DoneIs.some hl
  obtain ⟨e, he, hr⟩ := ready_some done _ d (Nat.le_refl _) hd hn
  have : (nextR tos done).isSome := by
    unfold nextR
    rw [List.find?_isSome]
    exact ⟨e, List.mem_range.2 he, hr⟩
  obtain ⟨x, hx⟩ := Option.isSome_iff_exists.1 this
  refine ⟨x, hx, List.mem_range.1 (List.mem_of_find?_eq_some hx), ?_⟩
  have := List.find?_some hx
  exact (ready_iff.1 this).1
theorem next_none {done : List Nat} (h : DoneIs tos done) (hl : tos.length ≤ done.length) : nextR tos done = none := by
  unfold nextR
  rw [List.find?_eq_none]
  intro d hd hr
  exact (ready_iff.1 hr).1 (h.all hl (List.mem_range.1 hd))
theorem orderTo_end {done : List Nat} (h : DoneIs tos done) (hl : tos.length ≤ done.length) (f : Nat) : orderTo tos f done = [] := by
  cases f with
  | zero => rfl
  | succ f => rw [orderTo, next_none h hl]
theorem next_is {done : List Nat} {d : Nat} (hd : d < tos.length) (hr : readyR tos done d = true) (hf : ∀ e, e < d → readyR tos done e = false) : nextR tos done = some d := by
  have : (nextR tos done).isSome := by
    unfold nextR
    rw [List.find?_isSome]
    exact ⟨d, List.mem_range.2 hd, hr⟩
  obtain ⟨x, hx⟩ := Option.isSome_iff_exists.1 this
  rw [hx]
  have hxr := List.find?_some hx
  unfold nextR at hx
  obtain ⟨_, l1, l2, hab, hno⟩ := List.find?_eq_some_iff_append.1 hx
  have hx1 : ¬ x < d := fun h => by rw [hf x h] at hxr; cases hxr
  refine congrArg Option.some (Nat.le_antisymm (Nat.le_of_not_lt fun h => ?_) (Nat.le_of_not_lt hx1))
  have hlen : l1.length = x := by
    have h1 : (List.range tos.length)[l1.length]? = some x := by rw [hab]; simp
    rw [List.getElem?_eq_some_iff] at h1
    obtain ⟨h2, h3⟩ := h1
    simpa using h3
  have : d ∈ l1 := by
    have h1 : (List.range tos.length)[d]? = some d := by rw [List.getElem?_range hd]
    rw [hab, List.getElem?_append_left (by omega)] at h1
    exact List.mem_of_getElem? h1
  have := hno d this
  rw [hr] at this; cases this
theorem next_inv {done : List Nat} {d : Nat} (h : nextR tos done = some d) : d < tos.length ∧ readyR tos done d = true ∧ ∀ e, e < d → readyR tos done e = false := by
  have hr := List.find?_some h
  unfold nextR at h
  have hd := List.mem_range.1 (List.mem_of_find?_eq_some h)
  refine ⟨hd, hr, fun e he => ?_⟩
  obtain ⟨_, l1, l2, hab, hno⟩ := List.find?_eq_some_iff_append.1 h
  have hlen : l1.length = d := by
    have h1 : (List.range tos.length)[l1.length]? = some d := by rw [hab]; simp
    rw [List.getElem?_eq_some_iff] at h1
    obtain ⟨h2, h3⟩ := h1
    simpa using h3
  have : e ∈ l1 := by
    have h1 : (List.range tos.length)[e]? = some e := by rw [List.getElem?_range (by omega)]
    rw [hab, List.getElem?_append_left (by omega)] at h1
    exact List.mem_of_getElem? h1
  simpa using hno e this
theorem ready_same {done : List Nat} (h : DoneIs tos done) {i j : Nat} (hi : i < tos.length) (hj : j ∈ grpR tos i) (hr : readyR tos done i = true) : readyR tos done j = true := by
  rw [ready_iff] at hr ⊢
  refine ⟨h.apart hi hr.1 hj, fun k hk hjk => ?_⟩
  rw [grp_same hi hj]
  obtain ⟨hl, hc⟩ := (mem_grp hi).1 hj
  rcases hc with rfl | ⟨h1, h2⟩
  · exact hr.2 k hk hjk
  · exact hr.2 k hk (h1.trans hjk)
end
end Go.Abs

/- The lags of definitions: round after round. -/
open Go Go.Abs
namespace Go.Abs
set_option maxRecDepth 100000
def colD (D : List (List Lg)) (s : Nat) : Nat → Lg := fun d => (D.getD d []).getD s Lg.z
def expAt (p : Pgm) (d : Nat) : Exp := match p.defs[d]? with
  | some x => x.exp
  | none => .mk 0 [] 0 0 [] []
def allL (p : Pgm) (D : List (List Lg)) (e : Exp) : List Lg := (List.range p.srcs.length).map fun s => expG p.srcs (p.defs.map Dfn.name) (colD D s) s e
def ringL (ring : Bool) (a : Lg) : Lg := if ring then a.thru true 0 0 else a
def rowL (p : Pgm) (ring : Bool) (D : List (List Lg)) (d : Nat) : List Lg := (allL p D (expAt p d)).map (ringL ring)
def setL (p : Pgm) (ring : Bool) (D : List (List Lg)) (d : Nat) : List (List Lg) := D.set d (rowL p ring D d)
def rndL (p : Pgm) (ring : Bool) (g : List Nat) (D : List (List Lg)) : List (List Lg) := g.foldl (setL p ring) D
def rndsL (p : Pgm) (ring : Bool) (g : List Nat) : Nat → List (List Lg) → List (List Lg)
  | 0, D => D
  | n + 1, D => rndL p ring g (rndsL p ring g n D)
structure Wide (p : Pgm) (D : List (List Lg)) : Prop where
  len : D.length = p.defs.length
  row : ∀ r ∈ D, r.length = p.srcs.length
  ok : ∀ r ∈ D, ∀ a ∈ r, a.Ok
theorem Wide.col {p : Pgm} {D : List (List Lg)} (h : Wide p D) (s d : Nat) : (colD D s d).Ok := by
  unfold colD
  rw [List.getD_eq_getElem?_getD, List.getD_eq_getElem?_getD]
  cases hd : D[d]? with
  | none => exact Lg.okz
  | some r =>
    simp only [Option.getD_some]
    cases hs : r[s]? with
    | none => exact Lg.okz
    | some a => exact h.ok r (List.mem_of_getElem? hd) a (List.mem_of_getElem? hs)
theorem rowL_len (p : Pgm) (ring : Bool) (D : List (List Lg)) (d : Nat) : (rowL p ring D d).length = p.srcs.length := by simp [rowL, allL]
theorem Wide.allL {p : Pgm} {D : List (List Lg)} (h : Wide p D) (e : Exp) : ∀ a ∈ allL p D e, a.Ok := fun a ha => by
  unfold Go.Abs.allL at ha
  obtain ⟨s, _, rfl⟩ := List.mem_map.1 ha
  exact expG_ok _ _ (h.col s) s _
theorem Wide.rowL {p : Pgm} {D : List (List Lg)} (h : Wide p D) (ring : Bool) (d : Nat) : ∀ a ∈ rowL p ring D d, a.Ok := fun a ha => by
  unfold Go.Abs.rowL at ha
  obtain ⟨b, hb, rfl⟩ := List.mem_map.1 ha
  unfold ringL
  split
  · exact (h.allL _ b hb).thru _ _ _
  · exact h.allL _ b hb
theorem Wide.set {p : Pgm} {D : List (List Lg)} (h : Wide p D) (ring : Bool) (d : Nat) : Wide p (setL p ring D d) where
  len := by unfold setL; rw [List.length_set]; exact h.len
  row := fun r hr => by
    rcases List.mem_or_eq_of_mem_set hr with hr | rfl
    · exact h.row r hr
    · exact rowL_len ..
  ok := fun r hr => by
    rcases List.mem_or_eq_of_mem_set hr with hr | rfl
    · exact h.ok r hr
    · exact h.rowL ring d
theorem Wide.rnd {p : Pgm} {ring : Bool} : ∀ (g : List Nat) {D : List (List Lg)}, Wide p D → Wide p (rndL p ring g D)
  | [], _, h => h
  | d :: g, _, h => Wide.rnd g (h.set ring d)
theorem Wide.rnds {p : Pgm} {D : List (List Lg)} (h : Wide p D) (ring : Bool) (g : List Nat) : ∀ n, Wide p (rndsL p ring g n D)
  | 0 => h
  | n + 1 => (h.rnds ring g n).rnd g
theorem Wide.ext {p : Pgm} {D E : List (List Lg)} (h : Wide p D) (k : Wide p E) (he : ∀ s, s < p.srcs.length → ∀ d, colD D s d = colD E s d) : D = E := by
  refine List.ext_getElem (by rw [h.len, k.len]) fun d h1 h2 => ?_
  refine List.ext_getElem (by rw [h.row _ (List.getElem_mem h1), k.row _ (List.getElem_mem h2)]) fun s h3 h4 => ?_
  have hs : s < p.srcs.length := by rw [← h.row _ (List.getElem_mem h1)]; exact h3
  have := he s hs d
  unfold colD at this
  simpa [List.getD_eq_getElem?_getD, h1, h2, h3, h4] using this
theorem col_set {p : Pgm} {D : List (List Lg)} (h : Wide p D) (ring : Bool) {d : Nat} (hd : d < p.defs.length) {s : Nat} (hs : s < p.srcs.length) (e : Nat) :
    colD (setL p ring D d) s e = if e = d then ringL ring (expG p.srcs (p.defs.map Dfn.name) (colD D s) s (expAt p d)) else colD D s e := by
  have hd' : d < D.length := by rw [h.len]; exact hd
  unfold colD setL
  by_cases he : e = d
  · subst he
    rw [if_pos rfl, List.getD_eq_getElem?_getD (l := D.set e _), List.getElem?_set_self hd', Option.getD_some]
    unfold rowL allL
    simp [List.getD_eq_getElem?_getD, hs]
    rfl
  · rw [if_neg he, List.getD_eq_getElem?_getD (l := D.set d _), List.getElem?_set_ne (fun h => he h.symm), ← List.getD_eq_getElem?_getD]
/-! A ring. -/
def ofK : Option Int → Lg
  | none => Lg.z
  | some a => ⟨true, true, 0, a⟩
theorem ring_ofK {a : Lg} (h : a.Ok) : ringL true a = ofK (ringL true a).key := by
  unfold ringL
  rw [if_pos rfl]
  unfold Lg.thru
  cases ha : a.on
  · rw [h.none ha]; rfl
  · simp [Lg.key, ofK]
def valK (g : List Nat) (w : Nat → Lg) (u : Nat → Option Int) (e : Nat) : Lg := if e ∈ g then ofK (u e) else w e
def FK (p : Pgm) (g : List Nat) (w : Nat → Lg) (s : Nat) (u : Nat → Option Int) (d : Nat) : Option Int := (ringL true (expG p.srcs (p.defs.map Dfn.name) (valK g w u) s (expAt p d))).key
theorem key_ofK (x : Option Int) : (ofK x).key = x := by cases x <;> rfl
theorem key_ring (a : Lg) : (ringL true a).key = a.key := by
  unfold ringL
  rw [if_pos rfl, key_thru]
  cases a.key <;> simp [oup]
theorem FK_ok {p : Pgm} {g : List Nat} {w : Nat → Lg} {s : Nat} (hg : ∀ d ∈ g, ∀ x ∈ allE (expAt p d), x.fore = false ∧ (x.op = 2 ∨ x.op = 3 → 0 ≤ x.n)) {v0 : Nat → Option Int} (h0 : ∀ d ∈ g, v0 d = none) : Iter.Ok (FK p g w s) g v0 where
  start := h0
  mono := fun u v h d => by
    unfold FK
    rw [key_ring, key_ring]
    refine expG_mono _ _ _ (fun e => ?_) _
    unfold valK
    split
    · rw [key_ofK, key_ofK]; exact h e
    · exact Iter.le_refl _
  wit := fun u v h ho d hd hlt => by
    unfold FK at hlt ⊢
    rw [key_ring] at hlt ⊢
    rw [key_ring] at hlt
    obtain ⟨e, he, h1, h2⟩ := expG_wit p.srcs (p.defs.map Dfn.name) s (g := g) (u := valK g w u) (v := valK g w v) (fun e he => by unfold valK; rw [if_neg he, if_neg he]) _ (hg d hd) hlt
    unfold valK at h1 h2
    rw [if_pos he, key_ofK] at h1 h2
    rw [if_pos he, key_ofK] at h2
    exact ⟨e, he, h1, h2⟩
theorem ring_step {p : Pgm} {g : List Nat} {w : Nat → Lg} {s : Nat} (hs : s < p.srcs.length) {D : List (List Lg)} (h : Wide p D) {u : Nat → Option Int} (hu : ∀ e, colD D s e = valK g w u e) {d : Nat} (hd : d < p.defs.length) (hg : d ∈ g) (e : Nat) :
    colD (setL p true D d) s e = valK g w (Iter.one (FK p g w s) u d) e := by
  rw [col_set h true hd hs, show colD D s = valK g w u from funext hu]
  unfold valK Iter.one
  by_cases he : e = d
  · subst he
    rw [if_pos rfl, if_pos hg, if_pos rfl]
    have hok : (expG p.srcs (p.defs.map Dfn.name) (valK g w u) s (expAt p e)).Ok := expG_ok _ _ (fun e => by rw [← hu]; exact h.col s e) s _
    exact ring_ofK hok
  · rw [if_neg he, if_neg he]
theorem ring_rnd {p : Pgm} {g : List Nat} {w : Nat → Lg} {s : Nat} (hs : s < p.srcs.length) : ∀ (r : List Nat), (∀ d ∈ r, d < p.defs.length ∧ d ∈ g) → ∀ {D : List (List Lg)}, Wide p D → ∀ {u : Nat → Option Int}, (∀ e, colD D s e = valK g w u e) →
    ∀ e, colD (rndL p true r D) s e = valK g w (r.foldl (Iter.one (FK p g w s)) u) e
  | [], _, _, _, _, hu => hu
  | d :: r, hr, D, h, u, hu => by
    have hd := hr d (List.mem_cons_self ..)
    exact ring_rnd hs r (fun x hx => hr x (List.mem_cons_of_mem _ hx)) (h.set true d) (ring_step hs h hu hd.1 hd.2)
theorem ring_rnds {p : Pgm} {g : List Nat} {w : Nat → Lg} {s : Nat} (hs : s < p.srcs.length) (hg : ∀ d ∈ g, d < p.defs.length) {D : List (List Lg)} (h : Wide p D) {u : Nat → Option Int} (hu : ∀ e, colD D s e = valK g w u e) :
    ∀ n e, colD (rndsL p true g n D) s e = valK g w (Iter.it (Iter.gs (FK p g w s) g) n u) e
  | 0 => hu
  | n + 1 => ring_rnd hs g (fun d hd => ⟨hg d hd, hd⟩) (h.rnds true g n) (ring_rnds hs hg h hu n)
theorem ring_end {p : Pgm} {g : List Nat} (hg : ∀ d ∈ g, d < p.defs.length) (hx : ∀ d ∈ g, ∀ x ∈ allE (expAt p d), x.fore = false ∧ (x.op = 2 ∨ x.op = 3 → 0 ≤ x.n)) {D : List (List Lg)} (h : Wide p D) (h0 : ∀ d ∈ g, ∀ s, colD D s d = Lg.z) {m n : Nat} (hm : g.length ≤ m) (hn : g.length ≤ n) :
    rndsL p true g m D = rndsL p true g n D := by
  refine (h.rnds true g m).ext (h.rnds true g n) fun s hs e => ?_
  have hu : ∀ e, colD D s e = valK g (colD D s) (fun d => if d ∈ g then none else (colD D s d).key) e := fun e => by
    unfold valK
    by_cases he : e ∈ g
    · rw [if_pos he, h0 e he]; simp only [he, if_true]; rfl
    · rw [if_neg he]
  have hok := FK_ok (p := p) (g := g) (w := colD D s) (s := s) hx (v0 := fun d => if d ∈ g then none else (colD D s d).key) (fun d hd => if_pos hd)
  rw [ring_rnds hs hg h hu m e, ring_rnds hs hg h hu n e, Iter.gs_eq hok hm, Iter.gs_eq hok hn]
/-! What is alone. -/
mutual
theorem expG_cong (srcs names : List Str) {u v : Nat → Lg} (s : Nat) : ∀ e, (∀ x ∈ allE e, x.op = 2 ∨ x.op = 3 → u (idxN names x.name) = v (idxN names x.name)) → expG srcs names u s e = expG srcs names v s e
  | .mk op name n fold calcs kids, h => by
    rw [expG, expG]
    split
    · rfl
    · split
      · rename_i hop
        have h1 : u (idxN names name) = v (idxN names name) := h (.mk op name n fold calcs kids) (by rw [allE]; exact List.mem_cons_self ..) hop
        rw [h1]
      · exact kidsG_cong srcs names s op n kids 0 _ fun x hx => h x (by rw [allE]; exact List.mem_cons_of_mem _ hx)
theorem kidsG_cong (srcs names : List Str) {u v : Nat → Lg} (s : Nat) (op n : Int) : ∀ (l : List Exp) (i : Nat) (out : Lg), (∀ x ∈ allEs l, x.op = 2 ∨ x.op = 3 → u (idxN names x.name) = v (idxN names x.name)) → kidsG srcs names u s op n l i out = kidsG srcs names v s op n l i out
  | [], _, _, _ => by rw [kidsG, kidsG]
  | x :: r, i, out, h => by
    rw [kidsG, kidsG, expG_cong srcs names s x fun y hy => h y (by rw [allEs]; exact List.mem_append_left _ hy)]
    exact kidsG_cong srcs names s op n r (i + 1) _ fun y hy => h y (by rw [allEs]; exact List.mem_append_right _ hy)
end
theorem one_end {p : Pgm} {d : Nat} (hd : d < p.defs.length) (hx : ∀ x ∈ allE (expAt p d), x.op = 2 ∨ x.op = 3 → idxN (p.defs.map Dfn.name) x.name ≠ d) {D : List (List Lg)} (h : Wide p D) : ∀ {n : Nat}, 1 ≤ n → rndsL p false [d] n D = rndsL p false [d] 1 D
  | 0, hn => absurd hn (by omega)
  | 1, _ => rfl
  | n + 2, _ => by
    rw [rndsL, one_end hd hx h (n := n + 1) (by omega)]
    have hw : Wide p (setL p false D d) := h.set false d
    show setL p false (setL p false D d) d = setL p false D d
    refine (hw.set false d).ext hw fun s hs e => ?_
    rw [col_set hw false hd hs]
    by_cases he : e = d
    · subst he
      rw [if_pos rfl, col_set h false hd hs, if_pos rfl]
      refine congrArg (ringL false) (expG_cong _ _ s _ fun x hxe hop => ?_)
      rw [col_set h false hd hs, if_neg (hx x hxe hop)]
    · rw [if_neg he]
theorem rnds_still {p : Pgm} {ring : Bool} {g : List Nat} {D : List (List Lg)} {r : Nat} (h : rndL p ring g (rndsL p ring g r D) = rndsL p ring g r D) : ∀ {m : Nat}, r ≤ m → rndsL p ring g m D = rndsL p ring g r D := by
  intro m hm
  induction hm with
  | refl => rfl
  | step _ ih => rw [rndsL, ih, h]
end Go.Abs

/- The groups of definitions, in their order: how the reference finds them. -/
open Go Go.Abs
namespace Go.Abs
set_option maxRecDepth 100000
noncomputable def groupsR (tos : List (List Nat)) : List (List Nat) := ringsR (reachR tos) ++ ((List.range tos.length).filter fun d => !reachB tos d d).map fun d => [d]
section
variable {tos : List (List Nat)}
theorem grp_head {d f : Nat} {r : List Nat} (h : grpR tos d = f :: r) {x : Nat} (hx : x ∈ grpR tos d) : f ≤ x := by
  have hp : (grpR tos d).Pairwise (· < ·) := List.Pairwise.filter _ List.pairwise_lt_range
  rw [h] at hp hx
  rcases List.mem_cons.1 hx with rfl | hx
  · exact Nat.le_refl _
  · exact Nat.le_of_lt ((List.pairwise_cons.1 hp).1 x hx)
theorem grp_alone {d : Nat} (hd : d < tos.length) (hn : ¬ Reach tos d d) : grpR tos d = [d] := by
  have hm : ∀ x, x ∈ grpR tos d ↔ x = d := fun x => by
    rw [mem_grp hd]
    refine ⟨fun h => ?_, fun h => ⟨h ▸ hd, .inl h⟩⟩
    rcases h.2 with h | ⟨h1, h2⟩
    · exact h
    · exact absurd (h1.trans h2) hn
  have hnd := grp_nodup (tos := tos) d
  match hg : grpR tos d with
  | [] => have := (hm d).2 rfl; rw [hg] at this; exact absurd this List.not_mem_nil
  | [x] => rw [(hm x).1 (by rw [hg]; exact List.mem_singleton.2 rfl)]
  | x :: y :: r =>
    rw [hg] at hnd
    have h1 := (hm x).1 (by rw [hg]; simp)
    have h2 := (hm y).1 (by rw [hg]; simp)
    rw [h1, h2] at hnd
    simp at hnd
theorem groups_is {g : List Nat} (h : g ∈ groupsR tos) : ∃ f r, f < tos.length ∧ g = f :: r ∧ g = grpR tos f := by
  rcases List.mem_append.1 h with h | h
  · unfold ringsR ringsTo at h
    obtain ⟨i, hi, rfl⟩ := List.mem_map.1 h
    rw [List.mem_filter, List.mem_range, reachR_len] at hi
    obtain ⟨h1, h2⟩ := hi
    unfold ringIs at h2
    rw [Bool.and_eq_true, beq_iff_eq] at h2
    have h3 := h2.2
    rw [reachR_len] at h3 ⊢
    cases hr : ringTo (reachR tos) i tos.length with
    | nil => rw [hr] at h3; cases h3
    | cons f r =>
      rw [hr] at h3
      simp only [List.head?_cons, Option.some.injEq] at h3
      subst h3
      exact ⟨f, r, h1, rfl, hr.symm⟩
  · obtain ⟨d, hd, rfl⟩ := List.mem_map.1 h
    rw [List.mem_filter, List.mem_range, Bool.not_eq_true'] at hd
    refine ⟨d, [], hd.1, rfl, (grp_alone hd.1 fun hr => ?_).symm⟩
    rw [reachB_iff.2 hr] at hd
    cases hd.2
theorem groups_all {d : Nat} (hd : d < tos.length) : grpR tos d ∈ groupsR tos := by
  by_cases hr : Reach tos d d
  · obtain ⟨r, h1, h2⟩ := rings_mem.2 ⟨hd, hr⟩
    have h3 : r ∈ groupsR tos := List.mem_append_left _ h1
    obtain ⟨f, r', hf, h4, h5⟩ := groups_is h3
    rw [h5] at h2
    rw [grp_same hf h2, ← h5]
    exact h3
  · refine List.mem_append_right _ (List.mem_map.2 ⟨d, ?_, (grp_alone hd hr).symm⟩)
    rw [List.mem_filter, List.mem_range, Bool.not_eq_true']
    refine ⟨hd, ?_⟩
    cases h : reachB tos d d with
    | false => rfl
    | true => exact absurd (reachB_iff.1 h) hr
theorem groups_nodup : (groupsR tos).Nodup := by
  refine List.nodup_append.2 ⟨?_, ?_, ?_⟩
  · refine List.Pairwise.map _ ?_ (List.Pairwise.imp_of_mem ?_ (List.Pairwise.filter (ringIs (reachR tos)) (List.nodup_range (n := (reachR tos).length))) (S := fun a b => ringTo (reachR tos) a (reachR tos).length ≠ ringTo (reachR tos) b (reachR tos).length))
    · exact fun a b h => h
    · intro a b ha hb hab he
      rw [List.mem_filter] at ha hb
      have h1 := ha.2
      have h2 := hb.2
      unfold ringIs at h1 h2
      rw [Bool.and_eq_true, beq_iff_eq] at h1 h2
      rw [he, h2.2] at h1
      exact hab (Option.some.inj h1.2).symm
  · refine List.Pairwise.map _ ?_ (List.Pairwise.filter _ (List.nodup_range (n := tos.length)))
    exact fun a b h he => h (List.singleton_inj.1 he)
  · intro a ha b hb hab
    subst hab
    obtain ⟨d, hd, rfl⟩ := List.mem_map.1 hb
    rw [List.mem_filter, List.mem_range, Bool.not_eq_true'] at hd
    have := (rings_mem (tos := tos) (k := d)).1 ⟨[d], ha, List.mem_singleton.2 rfl⟩
    rw [reachB_iff.2 this.2] at hd
    cases hd.2
theorem ready_ref {done : List Nat} {f : Nat} (hf : f < tos.length) : readyR tos done f = (!done.contains f && (List.range tos.length).all fun k => !reachB tos f k || reachB tos k f || done.contains k) := by
  rw [Bool.eq_iff_iff, ready_iff, Bool.and_eq_true, List.all_eq_true, Bool.not_eq_true', List.contains_eq_mem, decide_eq_false_iff_not]
  refine and_congr Iff.rfl ⟨fun h k hk => ?_, fun h k hk hr => ?_⟩
  · rw [List.mem_range] at hk
    cases hr : reachB tos f k with
    | false => rfl
    | true =>
      have hfk := reachB_iff.1 hr
      rcases h k hk hfk with h | h
      · simp [h]
      · have : reachB tos k f = true := by
          rcases ((mem_grp hf).1 h).2 with rfl | ⟨_, h2⟩
          · exact hr
          · exact reachB_iff.2 h2
        simp [this]
  · have := h k (List.mem_range.2 hk)
    rw [reachB_iff.2 hr] at this
    simp only [Bool.not_true, Bool.false_or, Bool.or_eq_true, List.contains_iff_mem] at this
    rcases this with h | h
    · exact .inr ((mem_grp hf).2 ⟨hk, .inr ⟨hr, reachB_iff.1 h⟩⟩)
    · exact .inl h
structure BestIs (tos : List (List Nat)) (done : List Nat) (g : Nat) (best : Option Nat) : Prop where
  none : best = none → ∀ i f r, i < g → (groupsR tos)[i]? = some (f :: r) → readyR tos done f = false
  some : ∀ j, best = some j → j < g ∧ ∃ f r, (groupsR tos)[j]? = some (f :: r) ∧ readyR tos done f = true ∧ ∀ i f' r', i < g → (groupsR tos)[i]? = some (f' :: r') → readyR tos done f' = true → f ≤ f'
theorem BestIs.zero {done : List Nat} : BestIs tos done 0 .none := ⟨fun _ i _ _ h => absurd h (Nat.not_lt_zero i), fun _ h => by cases h⟩
theorem BestIs.skip {done : List Nat} {g : Nat} {best : Option Nat} (h : BestIs tos done g best) {f : Nat} {r : List Nat} (hg : (groupsR tos)[g]? = .some (f :: r))
    (hn : readyR tos done f = false ∨ ∃ j f' r', best = .some j ∧ (groupsR tos)[j]? = .some (f' :: r') ∧ f' ≤ f) : BestIs tos done (g + 1) best where
  none := fun hb i f' r' hi he => by
    rcases Nat.lt_or_eq_of_le (Nat.le_of_lt_succ hi) with hi | rfl
    · exact h.none hb i f' r' hi he
    · rw [hg] at he; cases he
      rcases hn with hn | ⟨j, _, _, hj, _⟩
      · exact hn
      · rw [hb] at hj; cases hj
  some := fun j hj => by
    obtain ⟨h1, f1, r1, h2, h3, h4⟩ := h.some j hj
    refine ⟨by omega, f1, r1, h2, h3, fun i f' r' hi he hr => ?_⟩
    rcases Nat.lt_or_eq_of_le (Nat.le_of_lt_succ hi) with hi | rfl
    · exact h4 i f' r' hi he hr
    · rw [hg] at he; cases he
      rcases hn with hn | ⟨j', f2, r2, hj', h5, h6⟩
      · rw [hr] at hn; cases hn
      · rw [hj] at hj'; cases hj'
        rw [h2] at h5; cases h5
        exact h6
theorem BestIs.take {done : List Nat} {g : Nat} {best : Option Nat} (h : BestIs tos done g best) {f : Nat} {r : List Nat} (hg : (groupsR tos)[g]? = .some (f :: r)) (hr : readyR tos done f = true)
    (hn : best = .none ∨ ∃ j f' r', best = .some j ∧ (groupsR tos)[j]? = .some (f' :: r') ∧ f < f') : BestIs tos done (g + 1) (.some g) where
  none := fun hb => by cases hb
  some := fun j hj => by
    cases hj
    refine ⟨by omega, f, r, hg, hr, fun i f' r' hi he hr' => ?_⟩
    rcases Nat.lt_or_eq_of_le (Nat.le_of_lt_succ hi) with hi | rfl
    · rcases hn with hn | ⟨j', f2, r2, hj', h5, h6⟩
      · rw [h.none hn i f' r' hi he] at hr'; cases hr'
      · obtain ⟨_, f1, r1, h2, _, h4⟩ := h.some j' hj'
        rw [h2] at h5; cases h5
        have := h4 i f' r' hi he hr'
        omega
    · rw [hg] at he; cases he; exact Nat.le_refl _
theorem BestIs.fin {done : List Nat} (hdone : DoneIs tos done) (hl : done.length < tos.length) {best : Option Nat} (h : BestIs tos done (groupsR tos).length best) : ∃ j d, best = .some j ∧ (groupsR tos)[j]? = .some (grpR tos d) ∧ nextR tos done = .some d ∧ d < tos.length ∧ d ∉ done := by
  obtain ⟨d, h1, h2, h3⟩ := next_some hl
  obtain ⟨_, h4, h5⟩ := next_inv h1
  obtain ⟨i, hi⟩ := List.mem_iff_getElem?.1 (groups_all h2)
  obtain ⟨f, r, hf, hg1, hg2⟩ := groups_is (groups_all h2)
  have hfd : f ∈ grpR tos d := by rw [hg1]; exact List.mem_cons_self ..
  have hfr := ready_same hdone h2 hfd h4
  have hle := grp_head hg1 (grp_self h2)
  have hfeq : f = d := by
    rcases Nat.lt_or_eq_of_le hle with hlt | h
    · rw [h5 f hlt] at hfr; cases hfr
    · exact h
  have hil : i < (groupsR tos).length := (List.getElem?_eq_some_iff.1 hi).1
  rw [hg1] at hi
  cases best with
  | none => rw [h.none rfl i f r hil hi] at hfr; cases hfr
  | some j =>
    obtain ⟨_, f1, r1, k2, k3, k4⟩ := h.some j rfl
    have hle1 := k4 i f r hil hi hfr
    have hf1 : f1 = d := by
      rcases Nat.lt_or_eq_of_le (by omega : f1 ≤ d) with hlt | h
      · rw [h5 f1 hlt] at k3; cases k3
      · exact h
    obtain ⟨f2, r2, _, e1, e2⟩ := groups_is (List.mem_of_getElem? k2)
    cases e1
    refine ⟨j, d, rfl, ?_, h1, h2, h3⟩
    rw [k2, e2, hf1]
theorem groups_done {done : List Nat} (hdone : DoneIs tos done) {out : List (List Nat)} (ho : out.Nodup) (hs : ∀ g ∈ out, g ∈ groupsR tos) (hd : ∀ g ∈ groupsR tos, g ∈ out ↔ ∀ k ∈ g, k ∈ done) :
    (out.length < (groupsR tos).length ↔ done.length < tos.length) := by
  constructor
  · intro h
    refine Nat.lt_of_le_of_ne hdone.len fun he => ?_
    have := nodup_le (groupsR tos) out groups_nodup (fun g hg => (hd g hg).2 fun k hk => by
      obtain ⟨f, r, hf, _, e⟩ := groups_is hg
      rw [e] at hk
      exact hdone.all (by omega) (grp_lt hk))
    omega
  · intro h
    obtain ⟨d, hdl, hdn⟩ := DoneIs.some h
    have hg := groups_all hdl
    have hno : grpR tos d ∉ out := fun hc => hdn ((hd _ hg).1 hc d (grp_self hdl))
    have := nodup_le (grpR tos d :: out) (groupsR tos) (List.nodup_cons.2 ⟨hno, ho⟩) (fun g hg' => by
      rcases List.mem_cons.1 hg' with rfl | hg'
      · exact hg
      · exact hs g hg')
    simp only [List.length_cons] at this
    omega
end
end Go.Abs

/- The reference: the groups of definitions, in their order. -/
open Go Go.Abs
namespace Go.Abs
set_option maxRecDepth 100000
set_option maxHeartbeats 4000000
instance fnis445 : FnIs CC 145 := ⟨rfl, fun _ => rfl⟩
def RowI (lo hi : Nat) (G : Nat → Obj) (v : AV) (g : List Nat) : Prop := v = .imm (natsIV g) ∨ ∃ o, lo ≤ o ∧ o < hi ∧ v = .row o g.length ∧ G o = .row 3 1 ((g.map natIV).map .imm) false
theorem RowI.frame {G G' : Nat → Obj} {lo hi hi' : Nat} {v : AV} {g : List Nat} (h : RowI lo hi G v g) (hh : hi ≤ hi') (hG : ∀ o, lo ≤ o → o < hi → G' o = G o) : RowI lo hi' G' v g := by
  rcases h with h | ⟨o, h0, h1, h2, h3⟩
  · exact .inl h
  · exact .inr ⟨o, h0, by omega, h2, by rw [hG o h0 h1]; exact h3⟩
theorem RowI.rdx {G : Nat → Obj} {lo hi : Nat} {v : AV} {g : List Nat} (h : RowI lo hi G v g) : Rdx 1 G (fun o => lo ≤ o ∧ o < hi) v (natsIV g) := by
  rcases h with rfl | ⟨o, h0, h1, rfl, h3⟩
  · exact Rdx.imm ..
  · exact Rdx.row h3 (by simp) (All2.imms ..) ⟨h0, h1⟩
theorem RowI.fits {G : Nat → Obj} {lo hi : Nat} {v : AV} {g : List Nat} (h : RowI lo hi G v g) : v.fits 1 = true := by
  rcases h with rfl | ⟨o, h0, h1, rfl, h3⟩ <;> rfl
theorem All2.at {α β : Type} {R : α → β → Prop} : ∀ {l : List α} {m : List β}, All2 R l m → ∀ {i : Nat} {y : β}, m[i]? = some y → ∃ x, l[i]? = some x ∧ R x y
  | [], [], _, _, _, h => by simp at h
  | x :: l, y :: m, h, 0, z, hz => by
    simp at hz; subst hz; exact ⟨x, rfl, h.1⟩
  | x :: l, y :: m, h, i + 1, z, hz => by
    simp at hz
    obtain ⟨w, h1, h2⟩ := All2.at h.2 hz
    exact ⟨w, by simpa using h1, h2⟩
def boolsA (n : Nat) (done : List Nat) : List AV := (List.range n).map fun d => .imm (.bool (done.contains d))
theorem boolsA_nil (n : Nat) : List.replicate n (AV.imm (.bool false)) = boolsA n [] := by
  unfold boolsA
  rw [show (fun d : Nat => AV.imm (IV.bool (([] : List Nat).contains d))) = fun _ => AV.imm (.bool false) from rfl, List.map_const', List.length_range]
theorem boolsA_len (n : Nat) (done : List Nat) : (boolsA n done).length = n := by simp [boolsA]
theorem boolsA_at {n : Nat} {done : List Nat} {d : Nat} (hd : d < n) : (boolsA n done)[(d : Int).toNat]? = some (.imm (.bool (done.contains d))) := by
  rw [Int.toNat_natCast, boolsA, List.getElem?_map, List.getElem?_range hd]; rfl
theorem boolsA_set {n : Nat} {done : List Nat} {d : Nat} (hd : d < n) : (boolsA n done).set d (.imm (.bool true)) = boolsA n (done ++ [d]) := by
  refine List.ext_getElem? fun i => ?_
  unfold boolsA
  rw [List.getElem?_set]
  simp only [List.length_map, List.length_range, List.getElem?_map]
  by_cases hi : d = i
  · subst hi; simp [hd]
  · rw [if_neg hi]
    rcases Nat.lt_or_ge i n with h | h
    · rw [List.getElem?_range h]
      have : (done ++ [d]).contains i = done.contains i := by
        rw [Bool.eq_iff_iff, List.contains_iff_mem, List.contains_iff_mem, List.mem_append, List.mem_singleton]
        exact ⟨fun h => h.elim id fun e => absurd e.symm hi, .inl⟩
      simp only [Option.map_some, this]
    · rw [List.getElem?_eq_none (by simpa using h)]; rfl
def OutV (Q hi : Nat) (G : Nat → Obj) (v : AV) (out : List (List Nat)) : Prop := (out = [] ∧ v = .nils) ∨ ∃ o ws, Q < o ∧ o < hi ∧ v = .row o ws.length ∧ G o = .row 44 1 ws false ∧ All2 (RowI 10 Q G) ws out
theorem OutV.frame {Q hi hi' : Nat} {G G' : Nat → Obj} {v : AV} {out : List (List Nat)} (h : OutV Q hi G v out) (hh : hi ≤ hi') (hG : ∀ o, 10 ≤ o → o < hi → o ≠ Q → G' o = G o) (hQ : Q ≤ hi) (h10 : 10 ≤ Q) : OutV Q hi' G' v out := by
  rcases h with h | ⟨o, ws, h1, h2, h3, h4, h5⟩
  · exact .inl h
  · exact .inr ⟨o, ws, h1, by omega, h3, by rw [hG o (by omega) h2 (by omega)]; exact h4, h5.imp fun _ _ h => h.frame (Nat.le_refl _) fun o h6 h7 => hG o h6 (by omega) (by omega)⟩
theorem OutV.elems {Q hi : Nat} {G : Nat → Obj} {v : AV} {out : List (List Nat)} (h : OutV Q hi G v out) : ∃ ws, Go.Abs.elems G v = some ws ∧ ws.length = out.length := by
  rcases h with ⟨rfl, rfl⟩ | ⟨o, ws, h1, h2, rfl, h4, h5⟩
  · exact ⟨[], rfl, rfl⟩
  · exact ⟨ws, by simp [Go.Abs.elems, h4], h5.length⟩
theorem O.lenQ {C : Cfg} {id : Nat} {l : Env} {G : Nat → Obj} {nx : Nat} {df : List (AV × List AV)} {pk : Pk} {x : Operand} {t : TypeId} {k : TyI} {e' Q hi : Nat} {v : AV} {out : List (List Nat)} [hk : TyIs C t k] (hx : lookO l x = some v) (hl : k.d = .sl e') (ho : OutV Q hi G v out) : OpV C id l G nx df pk (.call { callee := .builtin .len, args := #[x], argTypes := #[t] }) (.imm (.int .i64 out.length)) [] := by
  obtain ⟨vs, h1, h2⟩ := ho.elems
  exact O.len (m := out.length) hx (by rw [hl]; simp [lenA, h1, h2])
theorem R.appQ {C : Cfg} {nt : Nat} {ol r : List Oper} {base i : Nat} {l : Env} {G : Nat → Obj} {nx : Nat} {df : List (AV × List AV)} {pk : Pk} {Φ : Out → Prop} {x y : Operand} {t u : TypeId} {Q hi d : Nat} {k ke : TyI} {out : List (List Nat)} {v w a : AV} {g : List Nat} {ty : TypeId} {pos : String} {af : Array Edge} [hk : TyIs C t k] (ht : k.d = .sl 44) [he : TyIs C 44 ke] (hz1 : ke.sz = 1) (hu : Nat.beq t u = true) (hx : lookO l x = some v) (ho : OutV Q hi G v out) (hy : lookO l y = some w) (hw : elems G w = some [a]) (ha : RowI 10 Q G a g)
    (hb : ke.bytes ≤ 4096) (hz : ke.zero.fits 1 = true) (hm : out.length + 1 ≤ most) (hid : hi ≤ base + i ∧ Q < base + i) (hd : Nat.ble (d + 1) nt = true)
    (next : ∀ v' G', OutV Q (base + i + 1) G' v' (out ++ [g]) → (∀ o, o ≤ Q → G' o = G o) → R C nt ol base (i + 1) r ((d, v') :: l) G' nx df pk Φ) :
    R C nt ol base i (⟨some d, .call { callee := .builtin .append, args := #[x, y], argTypes := #[t, u] }, ty, pos, af, none⟩ :: r) l G nx df pk Φ := by
  have hfa : [a].all (AV.fits ke.sz) = true := by rw [hz1]; simp [ha.fits]
  rcases ho with ⟨rfl, rfl⟩ | ⟨o, ws, h1, h2, rfl, hG, hall⟩
  · refine R.op1 (O.appNil ht hu hx hy hw (by omega) hb (by rw [hz1]; exact hz) hfa (by simpa using hm)) hd (next _ _ (.inr ⟨base + i, [a], hid.2, by omega, rfl, by rw [upd_same, hz1], ?_, trivial⟩) fun o ho => upd_ne _ _ _ _ (by omega))
    exact ha.frame (Nat.le_refl _) fun o h1 h2 => upd_ne _ _ _ _ (by omega)
  · have hl := hall.length
    refine R.op1 (O.appRow ht hu hx (by rw [hG, hz1]) rfl hy hw (by omega) hb (by rw [hz1]; exact hz) hfa (by rw [hl]; simpa using hm)) hd (next _ _ (.inr ⟨o, ws ++ [a], h1, by omega, rfl, by rw [upd_same, hz1], ?_⟩) fun o' ho' => upd_ne _ _ _ _ (by omega))
    exact All2.append (hall.imp fun _ _ h => h.frame (Nat.le_refl _) fun o' h1 h2 => upd_ne _ _ _ _ (by omega)) ⟨ha.frame (Nat.le_refl _) fun o' h1 h2 => upd_ne _ _ _ _ (by omega), trivial⟩
theorem rows_rdx {lo hi : Nat} {G : Nat → Obj} : ∀ {ws : List AV} {out : List (List Nat)}, All2 (RowI lo hi G) ws out → All2 (Rdx 1 G fun _ => True) ws (out.map natsIV)
  | [], [], _ => trivial
  | _ :: _, _ :: _, h => ⟨h.1.rdx.frame (fun _ _ => rfl) fun _ _ => trivial, rows_rdx h.2⟩
def bestI : Option Nat → Int
  | none => -1
  | some j => j
noncomputable def rdTo (tos : List (List Nat)) (done : List Nat) (f k : Nat) : Bool := ((List.range k).all fun k => !reachB tos f k || reachB tos k f || done.contains k) && !done.contains f
theorem rdTo_succ (tos : List (List Nat)) (done : List Nat) (f k : Nat) : rdTo tos done f (k + 1) = (rdTo tos done f k && (!reachB tos f k || reachB tos k f || done.contains k)) := by
  unfold rdTo
  rw [List.range_succ, List.all_append]
  simp only [List.all_cons, List.all_nil, Bool.and_true]
  generalize (List.range k).all _ = a
  cases a <;> simp [Bool.and_comm]
theorem rdTo_end {tos : List (List Nat)} {done : List Nat} {f : Nat} (hf : f < tos.length) : rdTo tos done f tos.length = readyR tos done f := by
  rw [ready_ref hf, Bool.and_comm]; rfl
theorem rowsI_imm (lo hi : Nat) (G : Nat → Obj) : ∀ l : List (List Nat), All2 (RowI lo hi G) ((l.map natsIV).map .imm) l
  | [] => trivial
  | _ :: l => ⟨.inl rfl, rowsI_imm lo hi G l⟩
theorem ret445 {p : Pgm} (hg : p.Good) (hp : p.Fits) : Ret CC 145 [p.iv] (.lst ((orderR (tosR p)).map natsIV)) := by
  have h53 := hg.ret53 hp
  have h55 := hg.ret55 hp
  have hn : (tosR p).length = p.defs.length := hg.steps.2.1
  have hd6 := hg.defs
  have hrl := ringsOf_len hg
  have hcell : ∀ i j, i < (tosR p).length → j < (tosR p).length → ∃ row, ((reachR (tosR p)).map boolsIV)[(i : Int).toNat]? = some (boolsIV row) ∧ (row.map IV.bool)[(j : Int).toNat]? = some (.bool (reachB (tosR p) i j)) := by
    intro i j hi hj
    refine ⟨reachRow (tosR p) (tosR p).length i, ?_, ?_⟩
    · rw [Int.toNat_natCast, List.getElem?_map, reachR, List.getElem?_map, List.getElem?_range hi]; rfl
    · rw [Int.toNat_natCast, reachRow, List.map_map, List.getElem?_map, List.getElem?_range hj]; rfl
  have hgr : groupsR (tosR p) = ringsOf p ++ ((List.range (tosR p).length).filter fun d => !reachB (tosR p) d d).map fun d => [d] := rfl
  generalize tosR p = tos at *
  generalize ringsOf p = rings at *
  generalize hM : (reachR tos).map boolsIV = M at *
  have hMl : M.length = tos.length := by rw [← hM, List.length_map, reachR_len]
  obtain ⟨srcs, defs⟩ := p
  simp only at hn hd6
  have hdm : (defs.map Dfn.iv).length = tos.length := by rw [List.length_map, hn]
  refine Ret.of (fn := Go.Proofs.Tryz.f145) (by kernel_rfl) rfl rfl ?_
  refine W.seq (W.region ?_)
  refine R.op1 (O.boxS (cs := [.imm (.lst (srcs.map sv)), .imm (.lst (defs.map Dfn.iv))]) rfl rfl rfl) rfl ?_
  refine BB ?_
  refine R.op1 (O.appNil (k := ty34) (ke := ty30) (ys := (rings.map natsIV).map .imm) rfl rfl rfl rfl rfl (by decide) (by decide) rfl (by simp; intro x _; rfl) (by simp only [List.length_map, most]; omega)) rfl ?_
  refine BB ?_
  refine W.loop (X := Nat × List AV) (fun x => [(1, .ptr 0 0), (3, .imm (.lst M)), (5, .row 9 x.2.length), (6, .imm (.int .i64 x.1))])
    (fun x nx G => G 0 = .box [.imm (.lst (srcs.map sv)), .imm (.lst (defs.map Dfn.iv))] false ∧ 12 ≤ nx ∧ x.1 ≤ tos.length ∧ G 9 = .row 44 1 x.2 false ∧ All2 (RowI 10 nx G) x.2 (rings ++ ((List.range x.1).filter fun d => !reachB tos d d).map fun d => [d]))
    (fun x => tos.length - x.1) (0, (rings.map natsIV).map .imm) .auto ⟨rfl, by decide, Nat.zero_le _, rfl, ?_⟩ ?_
  · simp only [List.range_zero, List.filter_nil, List.map_nil, List.append_nil]
    exact rowsI_imm _ _ _ _
  rintro ⟨i, vs⟩ nx G ⟨hG0, hnx, hi, hG9, hvs⟩
  dsimp only at hi hG9 hvs ⊢
  have hvl := hvs.length
  refine BB ?_
  refine W.cond rfl (fun h1 => ?_) (fun h1 => ?_)
  · have h1' : i < tos.length := by have := of_decide_eq_true h1; rw [hdm] at this; omega
    obtain ⟨row, c1, c2⟩ := hcell i i h1' h1'
    have hmu : tos.length - (i + 1) < tos.length - i := by omega
    have hs : (List.range (i + 1)).filter (fun d => !reachB tos d d) = (List.range i).filter (fun d => !reachB tos d d) ++ (if reachB tos i i then [] else [i]) := by
      rw [List.range_succ, List.filter_append]
      congr 1
      cases h : reachB tos i i <;> simp [h]
    cases hb : reachB tos i i with
    | true =>
      rw [hb] at c2 hs
      rw [if_pos rfl, List.append_nil] at hs
      refine BB ?_
      refine W.skipLop (i + 1, vs) hmu .auto ⟨hG0, by omega, h1', hG9, ?_⟩
      show All2 (RowI 10 _ G) vs (rings ++ ((List.range (i + 1)).filter fun d => !reachB tos d d).map fun d => [d])
      rw [hs]
      exact hvs.imp fun _ _ h => h.frame (by omega) fun _ _ _ => rfl
    | false =>
      rw [hb] at c2 hs
      rw [if_neg (by decide)] at hs
      have hlen : vs.length ≤ 12 := by
        rw [hvl, List.length_append, List.length_map]
        have := List.length_filter_le (fun d => !reachB tos d d) (List.range i)
        rw [List.length_range] at this
        omega
      refine BB ?_
      generalize hB : nx + (0 + 1 + 1 + 1 + 1 + 1) + (0 + 1 + 1 + 1 + 1 + 1 + 1 + 1 + 1) = B
      refine R.op1 (O.appRow (k := ty34) (ke := ty30) (xs := vs) (ys := [.row (B + (0 + 1 + 1)) 1]) (o := 9) rfl rfl rfl (by rw [upd_ne _ _ _ _ (by omega), upd_ne _ _ _ _ (by omega)]; exact hG9) rfl rfl (by simp [elems, upd]) (by decide) (by decide) rfl rfl (by simp only [List.length_cons, List.length_nil, most]; omega)) rfl ?_
      refine BB ?_
      refine W.skipLop (i + 1, vs ++ [.row (B + 2) 1]) hmu .auto ⟨?_, by omega, h1', upd_same .., ?_⟩
      · rw [upd_ne _ _ _ _ (by omega), upd_ne _ _ _ _ (by omega), upd_ne _ _ _ _ (by omega)]; exact hG0
      · show All2 _ (vs ++ [.row (B + 2) 1]) (rings ++ ((List.range (i + 1)).filter fun d => !reachB tos d d).map fun d => [d])
        rw [hs, List.map_append, ← List.append_assoc]
        refine All2.append (hvs.imp fun _ _ h => h.frame (by omega) fun o h1 h2 => ?_) ⟨.inr ⟨B + 2, by omega, by omega, rfl, ?_⟩, trivial⟩
        · rw [upd_ne _ _ _ _ (by omega), upd_ne _ _ _ _ (by omega), upd_ne _ _ _ _ (by omega)]
        · rw [upd_ne _ _ _ _ (by omega), upd_ne _ _ _ _ (by omega), upd_same]; rfl
  · have h1' : tos.length ≤ i := by have := of_decide_eq_false h1; rw [hdm] at this; omega
    have : i = tos.length := by omega
    subst this
    rw [← hgr] at hvs
    refine BB ?_
    refine R.op1 (O.makeSlice (ke := ty4) rfl inferInstance rfl rfl ⟨by rw [hdm]; omega, Int.le_refl _, by rw [hdm]; unfold most; omega⟩ (by decide) rfl (by decide)) rfl ?_
    refine BB ?_
    rw [hdm, Int.toNat_natCast, show ty4.zero = AV.imm (.bool false) from rfl, boolsA_nil]
    generalize hQ : nx + (0 + 1 + 1 + 1 + 1 + 1) + (0 + 1 + 1 + 1) = Q
    refine W.loop (X := List Nat × List (List Nat) × AV) (fun x => [(1, .ptr 0 0), (3, .imm (.lst M)), (5, .row 9 vs.length), (7, .row Q tos.length), (8, x.2.2)])
      (fun x nx G => G 0 = .box [.imm (.lst (srcs.map sv)), .imm (.lst (defs.map Dfn.iv))] false ∧ Q + 1 ≤ nx ∧ G 9 = .row 44 1 vs false ∧ All2 (RowI 10 Q G) vs (groupsR tos) ∧ G Q = .row 4 1 (boolsA tos.length x.1) false ∧ OutV Q nx G x.2.2 x.2.1 ∧
        DoneIs tos x.1 ∧ x.2.1.Nodup ∧ (∀ g ∈ x.2.1, g ∈ groupsR tos) ∧ (∀ g ∈ groupsR tos, g ∈ x.2.1 ↔ ∀ k ∈ g, k ∈ x.1) ∧ x.2.1 ++ orderTo tos (tos.length - x.2.1.length) x.1 = orderR tos ∧ x.2.1.length ≤ x.1.length)
      (fun x => tos.length - x.1.length) ([], [], .nils) .auto ⟨?_, by omega, ?_, ?_, upd_same .., .inl ⟨rfl, rfl⟩, DoneIs.nil, List.nodup_nil, fun _ h => absurd h List.not_mem_nil, fun g hg => ⟨fun h => absurd h List.not_mem_nil, fun h => ?_⟩, rfl, Nat.le_refl _⟩ ?_
    · rw [upd_ne _ _ _ _ (by omega)]; exact hG0
    · rw [upd_ne _ _ _ _ (by omega)]; exact hG9
    · exact hvs.imp fun _ _ h => h.frame (by omega) fun o h1 h2 => upd_ne _ _ _ _ (by omega)
    · obtain ⟨f, r, _, e, _⟩ := groups_is hg
      subst e
      exact absurd (h f (List.mem_cons_self ..)) List.not_mem_nil
    clear hvs hG9 hG0
    rintro ⟨done, out, v⟩ nx2 G2 ⟨hG0, hnx2, hG9, hvs, hG7, hout, hdone, hnd, hsub, hiff, hord, hle⟩
    dsimp only at hG7 hout hdone hnd hsub hiff hord hle ⊢
    have hiffl := groups_done hdone hnd hsub hiff
    have hvl : vs.length = (groupsR tos).length := hvs.length
    have hgl12 : (groupsR tos).length ≤ 12 := by
      rw [hgr, List.length_append, List.length_map]
      have := List.length_filter_le (fun d => !reachB tos d d) (List.range tos.length)
      rw [List.length_range] at this
      omega
    refine BB ?_
    refine R.op0 (O.lenQ rfl rfl hout) rfl ?_
    refine BB ?_
    refine W.cond rfl (fun h2 => ?_) (fun h2 => ?_)
    · have h2' : out.length < (groupsR tos).length := by have := of_decide_eq_true h2; rw [hvl] at this; omega
      have hlt := hiffl.1 h2'
      refine BB ?_
      refine W.loop (X := Nat × Option Nat) (fun x => [(1, .ptr 0 0), (3, .imm (.lst M)), (5, .row 9 vs.length), (7, .row Q tos.length), (8, v), (9, .imm (.int .i64 (bestI x.2))), (10, .imm (.int .i64 x.1))])
        (fun x nx G => G = G2 ∧ nx2 ≤ nx ∧ x.1 ≤ (groupsR tos).length ∧ BestIs tos done x.1 x.2) (fun x => (groupsR tos).length - x.1) (0, none) .auto ⟨rfl, by omega, Nat.zero_le _, BestIs.zero⟩ ?_
      rintro ⟨g, best⟩ nx3 G3 ⟨hGe, hnx3, hg3, hbest⟩
      subst hGe
      dsimp only at hg3 hbest ⊢
      refine BB ?_
      refine W.cond rfl (fun h3 => ?_) (fun h3 => ?_)
      · have h3' : g < (groupsR tos).length := by have := of_decide_eq_true h3; rw [hvl] at this; omega
        obtain ⟨gr, hgr3⟩ := at_lt h3'
        obtain ⟨w, hw, hrow⟩ := hvs.at hgr3
        obtain ⟨f, r, hf, rfl, _⟩ := groups_is (List.mem_of_getElem? hgr3)
        have hw' : vs[(g : Int).toNat]? = some w := by rw [Int.toNat_natCast]; exact hw
        have hwf := hrow.fits
        have hdf := boolsA_at (n := tos.length) (done := done) hf
        have hdl := boolsA_len tos.length done
        have e0 : ((f :: r).map natIV)[((0 : Int)).toNat]? = some (natIV f) := rfl
        have e1 : (((f :: r).map natIV).map AV.imm)[((0 : Int)).toNat]? = some (.imm (natIV f)) := rfl
        have e2 : (((f :: r).map natIV).map AV.imm).length = (f :: r).length := by simp
        have e3 : 0 < (f :: r).length := Nat.succ_pos _
        rcases hrow with rfl | ⟨ow, ho1, ho2, rfl, ho4⟩
        all_goals
          refine BB ?_
          refine W.loop (X := Nat × Bool) (fun x => [(1, .ptr 0 0), (3, .imm (.lst M)), (5, .row 9 vs.length), (7, .row Q tos.length), (8, v), (9, .imm (.int .i64 (bestI best))), (10, .imm (.int .i64 g)), (11, .imm (natIV f)), (12, .imm (.bool x.2)), (13, .imm (.int .i64 x.1))])
            (fun x nx G => G = G3 ∧ nx3 ≤ nx ∧ x.1 ≤ tos.length ∧ x.2 = rdTo tos done f x.1) (fun x => tos.length - x.1) (0, !(done.contains f)) .auto ⟨rfl, by omega, Nat.zero_le _, rfl⟩ ?_
          rintro ⟨k, rd⟩ nx4 G4 ⟨hGe, hnx4, hk, hrd⟩
          subst hGe
          dsimp only at hk hrd ⊢
          refine BB ?_
          refine W.cond rfl (fun h4 => ?_) (fun h4 => ?_)
          · have h4' : k < tos.length := by have := of_decide_eq_true h4; rw [hdm] at this; omega
            obtain ⟨row1, c1, c2⟩ := hcell f k hf h4'
            obtain ⟨row2, d1, d2⟩ := hcell k f h4' hf
            have hdk := boolsA_at (n := tos.length) (done := done) h4'
            have hmu : tos.length - (k + 1) < tos.length - k := by omega
            have hs := rdTo_succ tos done f k
            rw [← hrd] at hs
            clear hrd
            generalize reachB tos f k = x at c2 hs
            generalize reachB tos k f = y at d2 hs
            generalize done.contains k = z at hdk hs
            cases rd
            · refine BB ?_
              exact W.skipLop (k + 1, false) hmu .auto ⟨rfl, by omega, h4', hs.symm⟩
            · cases x
              · refine BB ?_
                exact W.skipLop (k + 1, true) hmu .auto ⟨rfl, by omega, h4', hs.symm⟩
              · cases y
                · refine BB ?_
                  exact W.skipLop (k + 1, z) hmu .auto ⟨rfl, by omega, h4', hs.symm⟩
                · refine BB ?_
                  exact W.skipLop (k + 1, true) hmu .auto ⟨rfl, by omega, h4', hs.symm⟩
          · have h4' : ¬ k < tos.length := by have := of_decide_eq_false h4; rw [hdm] at this; omega
            have : k = tos.length := by omega
            subst this
            rw [rdTo_end hf] at hrd
            have hmu : (groupsR tos).length - (g + 1) < (groupsR tos).length - g := by omega
            cases rd with
            | false =>
              refine BB ?_
              exact W.skipLop (g + 1, best) hmu .auto ⟨rfl, by omega, h3', hbest.skip hgr3 (.inl hrd.symm)⟩
            | true =>
              cases best with
              | none =>
                have hb0 : decide (bestI none < 0) = true := rfl
                refine BB ?_
                exact W.skipLop (g + 1, some g) hmu .auto ⟨rfl, by omega, h3', hbest.take hgr3 hrd.symm (.inl rfl)⟩
              | some j =>
                obtain ⟨hjg, f1, r1, hj1, hj2, hj3⟩ := hbest.some j rfl
                obtain ⟨w1, hw1, hrow1⟩ := hvs.at hj1
                have hb0 : decide (bestI (some j) < 0) = false := decide_eq_false (by show ¬ ((j : Int) < 0); omega)
                have hw1' : vs[(bestI (some j)).toNat]? = some w1 := by show vs[(j : Int).toNat]? = _; rw [Int.toNat_natCast]; exact hw1
                have i0 : ((f1 :: r1).map natIV)[((0 : Int)).toNat]? = some (natIV f1) := rfl
                have i1 : (((f1 :: r1).map natIV).map AV.imm)[((0 : Int)).toNat]? = some (.imm (natIV f1)) := rfl
                have i2 : (((f1 :: r1).map natIV).map AV.imm).length = (f1 :: r1).length := by simp
                have i3 : 0 < (f1 :: r1).length := Nat.succ_pos _
                have i4 : bestI (some j) = (j : Int) := rfl
                have i5 : j < vs.length := by omega
                rcases hrow1 with rfl | ⟨ow1, hp1, hp2, rfl, hp4⟩
                all_goals
                  by_cases hff : f < f1
                  · have hff' : decide ((f : Int) < (f1 : Int)) = true := decide_eq_true (by omega)
                    refine BB ?_
                    exact W.skipLop (g + 1, some g) hmu .auto ⟨rfl, by omega, h3', hbest.take hgr3 hrd.symm (.inr ⟨j, f1, r1, rfl, hj1, hff⟩)⟩
                  · have hff' : decide ((f : Int) < (f1 : Int)) = false := decide_eq_false (by omega)
                    refine BB ?_
                    exact W.skipLop (g + 1, some j) hmu .auto ⟨rfl, by omega, h3', hbest.skip hgr3 (.inr ⟨j, f1, r1, rfl, hj1, by omega⟩)⟩
      · have h3' : ¬ g < (groupsR tos).length := by have := of_decide_eq_false h3; rw [hvl] at this; omega
        have : g = (groupsR tos).length := by omega
        subst this
        obtain ⟨j, d, hbj, hj, hnext, hd, hdn⟩ := hbest.fin hdone hlt
        subst hbj
        have hjl : j < (groupsR tos).length := (List.getElem?_eq_some_iff.1 hj).1
        obtain ⟨w, hw, hrow⟩ := hvs.at hj
        have hw' : vs[(j : Int).toNat]? = some w := by rw [Int.toNat_natCast]; exact hw
        have hwf := hrow.fits
        have hgn : ∀ k ∈ grpR tos d, k < tos.length := fun k hk => grp_lt hk
        have hgl : (grpR tos d).length ≤ 6 := by
          have := nodup_lt (grp_nodup (tos := tos) d) hgn
          omega
        rw [show bestI (some j) = (j : Int) from rfl]
        have e2 : (((grpR tos d).map natIV).map AV.imm).length = (grpR tos d).length := by simp
        have e3 : ((grpR tos d).map natIV).length = (grpR tos d).length := by simp
        refine BB ?_
        refine W.loop (X := Nat) (fun i => [(1, .ptr 0 0), (3, .imm (.lst M)), (5, .row 9 vs.length), (7, .row Q tos.length), (8, v), (9, .imm (.int .i64 j)), (14, .imm (.int .i64 i))])
          (fun i nx G => nx3 ≤ nx ∧ i ≤ (grpR tos d).length ∧ G Q = .row 4 1 (boolsA tos.length (done ++ (grpR tos d).take i)) false ∧ ∀ o, o ≠ Q → G o = G3 o) (fun i => (grpR tos d).length - i) 0 .auto ⟨by omega, Nat.zero_le _, by simpa using hG7, fun _ _ => rfl⟩ ?_
        rintro i nx4 G4 ⟨hnx4, hi4, hQ4, hfr4⟩
        have k9 : G4 9 = _ := (hfr4 9 (by omega)).trans hG9
        have k0 : G4 0 = _ := (hfr4 0 (by omega)).trans hG0
        have hrow4 : RowI 10 Q G4 w (grpR tos d) := hrow.frame (Nat.le_refl _) fun o h1 h2 => hfr4 o (by omega)
        rcases hrow4 with rfl | ⟨ow, ho1, ho2, rfl, ho4⟩
        all_goals
          refine BB ?_
          refine W.cond rfl (fun h4 => ?_) (fun h4 => ?_)
          · have h4' : i < (grpR tos d).length := by have := of_decide_eq_true h4; first | omega | (rw [e3] at this; omega)
            obtain ⟨k, hk⟩ := at_lt h4'
            have hkn := hgn k (List.mem_of_getElem? hk)
            have q0 : ((grpR tos d).map natIV)[(i : Int).toNat]? = some (natIV k) := at_map natIV hk
            have q1 : (((grpR tos d).map natIV).map AV.imm)[(i : Int).toNat]? = some (.imm (natIV k)) := by rw [List.getElem?_map, q0]; rfl
            have hbl := boolsA_len tos.length (done ++ (grpR tos d).take i)
            have hba := boolsA_at (n := tos.length) (done := done ++ (grpR tos d).take i) hkn
            have hbs := boolsA_set (n := tos.length) (done := done ++ (grpR tos d).take i) hkn
            have hmu : (grpR tos d).length - (i + 1) < (grpR tos d).length - i := by omega
            refine BB ?_
            refine R.opN1 (O.storeR (v := .imm (.bool true)) rfl rfl rfl rfl hQ4 hbl hba rfl rfl) ?_
            refine BB ?_
            refine W.skipLop (i + 1) hmu .auto ⟨by omega, h4', ?_, fun o ho => by rw [upd_ne _ _ _ _ ho]; exact hfr4 o ho⟩
            rw [upd_same, Int.toNat_natCast, hbs, List.take_add_one, hk, List.append_assoc]
            rfl
          · have h4' : ¬ i < (grpR tos d).length := by have := of_decide_eq_false h4; first | omega | (rw [e3] at this; omega)
            have : i = (grpR tos d).length := by omega
            subst this
            rw [List.take_length] at hQ4
            refine BB ?_
            have hout4 : OutV Q (nx4 + (0 + 1 + 1 + 1 + 1 + 1 + 1 + 1)) G4 v out := hout.frame (by omega) (fun o h1 h2 h3 => hfr4 o h3) (by omega) (by omega)
            have holen : out.length + 1 ≤ most := by unfold most; omega
            have hrw : ∀ {G' : Nat → Obj}, (∀ o, o < Q → G' o = G4 o) → RowI 10 Q G' _ (grpR tos d) := fun hG => (hvs.at hj).elim fun w' hw' => by
              obtain ⟨h1, h2⟩ := hw'
              rw [hw] at h1
              cases h1
              exact h2.frame (Nat.le_refl _) fun o h3 h4 => (hG o h4).trans (hfr4 o (by omega))
            refine R.appQ (k := ty34) (Q := Q) (hi := nx4 + (0 + 1 + 1 + 1 + 1 + 1 + 1 + 1)) (g := grpR tos d) rfl rfl rfl rfl (hout4.frame (Nat.le_refl _) (fun o h1 h2 h3 => upd_ne _ _ _ _ (by omega)) (by omega) (by omega)) rfl (by simp [elems, upd]) (hrw fun o ho => upd_ne _ _ _ _ (by omega)) (by decide) rfl holen (by omega) rfl fun v' G' ho' hfr' => ?_
            have hmu : tos.length - (done ++ grpR tos d).length < tos.length - done.length := by
              have := List.length_pos_of_mem (grp_self hd)
              rw [List.length_append]
              omega
            have hG'' : ∀ o, o < Q → G' o = G3 o := fun o ho => (hfr' o (by omega)).trans ((upd_ne _ _ _ _ (by omega)).trans (hfr4 o (by omega)))
            refine BB ?_
            refine W.skipLop (done ++ grpR tos d, out ++ [grpR tos d], v') hmu .auto ⟨?_, by omega, ?_, ?_, ?_, ho'.frame (by omega) (fun _ _ _ _ => rfl) (by omega) (by omega), hdone.step hd hdn, ?_, ?_, ?_, ?_, ?_⟩
            · exact (hG'' 0 (by omega)).trans hG0
            · exact (hG'' 9 (by omega)).trans hG9
            · exact hvs.imp fun _ _ h => h.frame (Nat.le_refl _) fun o h1 h2 => hG'' o h2
            · exact (hfr' Q (Nat.le_refl _)).trans ((upd_ne _ _ _ _ (by omega)).trans hQ4)
            · refine List.nodup_append.2 ⟨hnd, List.nodup_cons.2 ⟨List.not_mem_nil, List.nodup_nil⟩, fun a ha b hb hab => ?_⟩
              rw [List.mem_singleton] at hb
              subst hb; subst hab
              exact hdn ((hiff _ (groups_all hd)).1 ha d (grp_self hd))
            · intro x hx
              rcases List.mem_append.1 hx with hx | hx
              · exact hsub x hx
              · rw [List.mem_singleton] at hx; subst hx; exact groups_all hd
            · intro x hx
              obtain ⟨f, r, hf, hxe, hxg⟩ := groups_is hx
              rw [List.mem_append, List.mem_singleton]
              constructor
              · rintro (h | h) k hk
                · exact List.mem_append_left _ ((hiff x hx).1 h k hk)
                · exact List.mem_append_right _ (h ▸ hk)
              · intro h
                have hfx : f ∈ x := by rw [hxe]; exact List.mem_cons_self ..
                rcases List.mem_append.1 (h f hfx) with hfd | hfd
                · left
                  refine (hiff x hx).2 fun k hk => ?_
                  rw [hxg] at hk
                  exact hdone.whole f hfd k hk
                · right
                  rw [hxg]
                  exact grp_same hd hfd
            · rw [← hord]
              have : tos.length - out.length = (tos.length - (out ++ [grpR tos d]).length) + 1 := by simp only [List.length_append, List.length_cons, List.length_nil]; omega
              rw [this, orderTo, hnext, List.append_assoc]
              rfl
            · have := List.length_pos_of_mem (grp_self hd)
              simp only [List.length_append, List.length_cons, List.length_nil]; omega
    · have h2' : ¬ out.length < (groupsR tos).length := by have := of_decide_eq_false h2; rw [hvl] at this; omega
      have hge : tos.length ≤ done.length := by
        refine Nat.le_of_not_lt fun hc => h2' (hiffl.2 hc)
      rw [orderTo_end hdone hge, List.append_nil] at hord
      subst hord
      refine BB ?_
      rcases hout with ⟨h3, rfl⟩ | ⟨o, ws, h3, h4, rfl, h6, h7⟩
      · refine W.retFin1 rfl ?_
        rw [h3]
        exact ⟨[], rfl⟩
      · refine W.retFin1 rfl ?_
        exact (Rdx.row (d := 1) (P := fun _ => True) h6 rfl (rows_rdx h7) trivial).peek (by decide)
end Go.Abs
