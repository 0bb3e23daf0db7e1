/- The contract of slices.Clone, at strings. -/
import Derived.Test.YtpkmljhdaijanaaTaBase
import Derived.Test.YtpkmljhdaijanaaAbsSound
import Derived.Test.YtpkmljhdaijanaaShelf
import Derived.Lib.SmallJoins
open Go Go.Abs Go.RowKit
namespace Go.Abs

theorem ws_of_below {w w' : World} (h : Below w.heap.size w w') : WS (QN w) w w' := ⟨h.os, h.tape, h.output, h.size, fun k hk => h.block k (by simp only [QN] at hk; omega)⟩

theorem mem_below {w w' : World} {M : Mem} (hm : ∀ b o, M b = some o → w.heap[b]? = some o) (h : Below w.heap.size w w') : ∀ b o, M b = some o → w'.heap[b]? = some o := fun b o hb => by
  have := hm b o hb
  rw [h.block b (Array.getElem?_eq_some_iff.1 this).1]; exact this

/-- A slice that owns what it was asked to. -/
theorem orc_own {w w' : World} {M : Mem} {et : TypeId} {xs : List IV} {v : Value} {cs : List Value} (hm : ∀ b o, M b = some o → w.heap[b]? = some o) (hB : Below w.heap.size w w') (ho : w'.ownsRow w.heap.size et 1 v xs.length cs)
    (h1 : ∀ x ∈ xs, IV.cells x = [x] ∧ (AV.imm x).fits 1 = true) (hc : ∀ (i : Nat) x, xs[i]? = some x → VI M x (cs.getD i Go.undef)) : ∃ cv, Ending.returned v = .returned cv ∧ WS (QN w) w w' ∧ OrcEnd w M cv w' (.own et 1 xs) := by
  refine ⟨v, rfl, ws_of_below hB, M, cs, Mem.le_refl M, MQ.refl _ _, mem_below hm hB, by decide, ownsRow_base ho, fun b hb => ?_, fun x hx => (h1 x hx).2, fun i x j y hx hy => ?_⟩
  · rcases ho.2 with ⟨rfl, _⟩ | ⟨g, cap, cur, rfl, hg, _⟩
    · cases hb
    · simp [blk] at hb
      subst hb
      refine ⟨?_, hg⟩
      cases e : M g with
      | none => rfl
      | some o => have := (Array.getElem?_eq_some_iff.1 (hm g o e)).1; omega
  · have hm' := (h1 x (List.mem_of_getElem? hx)).1
    rw [hm'] at hy
    match j, hy with
    | 0, hy =>
      simp at hy; subst hy
      simpa using hc i _ hx
    | j + 1, hy => simp at hy

theorem str_all {xs : List IV} (h : xs.all isStrIV = true) : ∃ zs : List ByteArray, xs = zs.map .str := by
  induction xs with
  | nil => exact ⟨[], rfl⟩
  | cons x r ih =>
    rw [List.all_cons, Bool.and_eq_true] at h
    obtain ⟨zs, rfl⟩ := ih h.2
    cases x <;> simp [isStrIV] at h
    exact ⟨_ :: zs, rfl⟩

theorem VI_str {M : Mem} {s : ByteArray} {v : Value} (h : VI M (.str s) v) : v = .string s := by cases h; rfl
theorem VI_int {M : Mem} {k : IntKind} {n : Int} {v : Value} (h : VI M (.int k n) v) : v = .int k n := by cases h; rfl

theorem one_arg {M : Mem} {x : IV} {vs : Array Value} (h : VL (VI M) [x] vs) : ∃ v, vs = #[v] ∧ VI M x v := ⟨_, arr1 (by have := h.1; simpa using this.symm), h.2 0 x rfl⟩

theorem orc56 {xs : List IV} (hs : xs.all isStrIV = true) (hl : xs.length ≤ 4294967296) {M : Mem} {w : World} {vs : Array Value} (hm : ∀ b o, M b = some o → w.heap[b]? = some o) (hv : VL (VI M) [.lst xs] vs) :
    Calls Go.Proofs.Try.prog 56 vs w fun e w' => ∃ cv, e = .returned cv ∧ WS (QN w) w w' ∧ OrcEnd w M cv w' (.own 9 1 xs) := by
  obtain ⟨v, rfl, hx⟩ := one_arg hv
  obtain ⟨zs, rfl⟩ := str_all hs
  have hfit : ∀ x ∈ zs.map IV.str, IV.cells x = [x] ∧ (AV.imm x).fits 1 = true := by
    intro x hx
    obtain ⟨z, _, rfl⟩ := List.mem_map.1 hx
    exact ⟨rfl, rfl⟩
  have own0 : ∀ (w' : World), w'.ownsRow w.heap.size 9 1 (.slice none 0 0) 0 [] := fun w' => ⟨rfl, .inl ⟨rfl, rfl⟩⟩
  generalize hxs : zs.map IV.str = xs at hx hfit
  cases hx with
  | nil =>
    refine (Go.Proofs.Any.slices_Clone_string_nil Go.Proofs.Try.laysNm216 0 0 w).mono fun e w' ⟨he, hw⟩ => ?_
    subst he; subst hw
    exact orc_own hm (Below.refl _ _) (own0 _) (by simp) (fun i x h => by simp at h)
  | empty a c =>
    refine (Go.Proofs.Any.slices_Clone_string_zero Go.Proofs.Try.laysNm216 a c w).mono fun e w' ⟨v', he, ho, _, hB⟩ => ?_
    subst he
    exact orc_own hm hB ho (by simp) (fun i x h => by simp at h)
  | lst _ b off c cs e fr sz h0 hc hM hsz h1 h2 hcell =>
    subst hxs
    have hb := hm _ _ hM
    have hsz1 : sz = 1 := by
      cases zs with
      | nil => simp at h0
      | cons z r => have := h1 0 (.str z) rfl; simpa [IV.cells] using this.symm
    subst hsz1
    have hstr : ∀ (i : Nat) z, zs[i]? = some z → at_ cs (off + i) = .string z := by
      intro i z hz
      have := hcell i (.str z) 0 (.str z) (by simp [hz]) rfl
      simp only [Nat.mul_one, Nat.add_zero] at this
      exact VI_str this
    have key := Go.Proofs.Any.slices_Clone_string Go.Proofs.Try.laysNm216 b off zs.length c zs w (Nat.le_refl _) (by simp at hl; omega) (fun j hj => by
      have hz : zs[j]? = some zs[j] := by simp [hj]
      have h3 := hstr j _ hz
      simp only [World.cell?, hb]
      have hlt : off + j < cs.size := by simp at h2; omega
      simp only [Option.isSome_none, Bool.false_eq_true, if_false, hlt, Array.getElem?_eq_getElem]
      simp only [at_, Array.getD_eq_getD_getElem?, hlt, Array.getElem?_eq_getElem, Option.getD_some] at h3
      rw [h3]
      simp [hj])
    rw [List.length_map]
    refine key.mono fun e w' ⟨v', he, ho, _, hB⟩ => ?_
    subst he
    rw [List.take_length] at ho
    refine orc_own (xs := zs.map IV.str) hm hB (by rw [List.length_map]; exact ho) hfit (fun i x h => ?_)
    rw [List.getElem?_map, Option.map_eq_some_iff] at h
    obtain ⟨z, hz, rfl⟩ := h
    have : (zs.map Value.string).getD i Go.undef = .string z := by simp [hz]
    rw [this]
    exact .str z
end Go.Abs
