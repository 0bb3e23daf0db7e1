/- Names: there is one that is none of some. -/
import Derived.Test.YtpkmljhdaijanaaTaNames3
open Go Go.Abs
namespace Go.Abs

theorem wordN_zero : wordN 0 = [] := by rw [wordN]
theorem wordN_inj : ∀ n m, wordN n = wordN m → n = m := by
  intro n
  induction n using Nat.strongRecOn with
  | _ n ih =>
    intro m h
    cases n with
    | zero =>
      cases m with
      | zero => rfl
      | succ m => rw [wordN_zero, wordN_succ] at h; simp at h
    | succ n =>
      cases m with
      | zero => rw [wordN_zero, wordN_succ] at h; simp at h
      | succ m =>
        rw [wordN_succ, wordN_succ] at h
        have h1 := List.append_inj_left' h rfl
        have h2 := List.append_inj_right' h rfl
        have h3 := ih (n / 26) (by omega) _ h1
        have h4 : n % 26 = m % 26 := by
          have := congrArg UInt8.toNat (List.cons.inj h2).1
          simp only [UInt8.toNat_ofNat'] at this
          omega
        omega

theorem wordN_short : ∀ k n, n < 26 ^ k → (wordN n).length ≤ k
  | 0, n, h => by
    have : n = 0 := by simpa using h
    rw [this, wordN_zero]; simp
  | k + 1, n, h => by
    cases n with
    | zero => rw [wordN_zero]; simp
    | succ n =>
      rw [wordN_succ]
      have := wordN_short k (n / 26) (by rw [Nat.pow_succ] at h; omega)
      simp; omega

theorem wordN_low : ∀ n, lows (wordN n) = true := by
  intro n
  induction n using Nat.strongRecOn with
  | _ n ih =>
    cases n with
    | zero => rw [wordN_zero]; rfl
    | succ n =>
      have h := ih (n / 26) (by omega)
      have hc : ∀ r, r < 26 → okc (UInt8.ofNat (97 + r)) = true := by decide
      rw [wordN_succ]
      unfold lows at h ⊢
      rw [List.all_append, h, List.all_cons, hc _ (Nat.mod_lt _ (by omega))]
      rfl

theorem name_word {n : Nat} (h1 : 1 ≤ n) (h : n < 26 ^ 8) : nameOk (wordN n) = !kws.contains (wordN n) := by
  have h2 := wordN_short 8 n h
  have h3 : 0 < (wordN n).length := by
    cases n with
    | zero => omega
    | succ n => rw [wordN_succ]; simp
  rw [nameOk, wordN_low, decide_eq_true h3, decide_eq_true h2]
  simp

theorem nodup_len : ∀ (a b : List Str), a.Nodup → (∀ x ∈ a, x ∈ b) → a.length ≤ b.length
  | [], _, _, _ => Nat.zero_le _
  | x :: r, b, hn, hs => by
    rw [List.nodup_cons] at hn
    have hx := hs x (by simp)
    have h1 := nodup_len r (b.erase x) hn.2 (fun y hy => by
      have hne : y ≠ x := fun e => hn.1 (e ▸ hy)
      exact (List.mem_erase_of_ne hne).2 (hs y (by simp [hy])))
    rw [List.length_erase_of_mem hx] at h1
    have := List.length_pos_of_mem hx
    simp
    omega

theorem least_of {p : Nat → Bool} : ∀ n, p n = true → 1 ≤ n → ∃ m, 1 ≤ m ∧ m ≤ n ∧ p m = true ∧ ∀ k, 1 ≤ k → k < m → p k = false := by
  intro n
  induction n using Nat.strongRecOn with
  | _ n ih =>
    intro h hn
    by_cases hk : ∃ k, 1 ≤ k ∧ k < n ∧ p k = true
    · obtain ⟨k, h1, h2, h3⟩ := hk
      obtain ⟨m, a, b, c⟩ := ih k h2 h3 h1
      exact ⟨m, a, by omega, c⟩
    · exact ⟨n, hn, Nat.le_refl _, h, fun k h1 h2 => by
        cases e : p k with
        | false => rfl
        | true => exact absurd ⟨k, h1, h2, e⟩ hk⟩

theorem exists_first (l : List Str) (hl : l.length ≤ 1048576) : ∃ N, First l N := by
  have key : ∃ n, 1 ≤ n ∧ n ≤ l.length + 35 ∧ good l n = true := by
    refine Classical.byContradiction fun hno => ?_
    have h : ∀ n, 1 ≤ n → n ≤ l.length + 35 → wordN n ∈ kws ++ l := by
      intro n h1 h2
      have hg : good l n = false := by
        cases e : good l n with
        | false => rfl
        | true => exact absurd ⟨n, h1, h2, e⟩ hno
      rw [good, name_word h1 (by omega)] at hg
      rw [List.mem_append]
      cases hk : kws.contains (wordN n) with
      | true => exact .inl (by simpa using hk)
      | false =>
        rw [hk] at hg
        exact .inr (by simpa using hg)
    have h2 := nodup_len ((List.range (l.length + 35)).map fun i => wordN (i + 1)) (kws ++ l) (by
      rw [List.nodup_iff_pairwise_ne, List.pairwise_map]
      refine List.Pairwise.imp ?_ (List.nodup_iff_pairwise_ne.1 List.nodup_range)
      intro a b hab e
      have := wordN_inj _ _ e
      omega) (by
      intro x hx
      simp only [List.mem_map, List.mem_range] at hx
      obtain ⟨i, hi, rfl⟩ := hx
      exact h (i + 1) (by omega) (by omega))
    have hk : kws.length = 34 := rfl
    simp only [List.length_map, List.length_range, List.length_append, hk] at h2
    omega
  obtain ⟨n, h1, h2, h3⟩ := key
  obtain ⟨m, a, b, c, d⟩ := least_of (p := good l) n h3 h1
  exact ⟨m, a, c, d, by omega⟩
end Go.Abs
