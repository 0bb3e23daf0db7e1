/- TermNames: the row. -/
import Derived.Test.YtpkmljhdaijanaaTaNamesLaw
import Derived.Test.YtpkmljhdaijanaaTaLaw
import Derived.Deep.Strs
open Go Go.Abs Go.RowKit Go.ChangeShapes Go.WideShapes Go.ChangeAt
open Go.ChangeMaps (open_string)
namespace Go.Abs

theorem bulk_one {H : Type} (d : DataW H) : 1 ≤ Go.Proofs.Ytpkmljhdaijanaa.Rows.uptoBulk d := by
  cases d with
  | lit l => cases l <;> simp [Go.Proofs.Ytpkmljhdaijanaa.Rows.uptoBulk]
  | _ => simp [Go.Proofs.Ytpkmljhdaijanaa.Rows.uptoBulk]
theorem bulk_len {H : Type} : ∀ l : List (DataW H), l.length ≤ Go.Proofs.Ytpkmljhdaijanaa.Rows.uptoBulkAll l
  | [] => by simp [Go.Proofs.Ytpkmljhdaijanaa.Rows.uptoBulkAll]
  | x :: r => by
    have h1 := bulk_one x
    have h2 := bulk_len r
    simp only [Go.Proofs.Ytpkmljhdaijanaa.Rows.uptoBulkAll, List.length_cons]
    omega

theorem VI_sv {M : Mem} (s : ByteArray) : VI M (sv s.data.toList) (.string s) := by
  rw [← sv_eta]; exact .str s

theorem cell_block {w : World} {a : Addr} {v : Value} (h : w.cell? a = some v) : a.spot = none ∧ ∃ cs e fr, w.heap[a.block]? = some (.cells cs e fr) ∧ cs[a.off]? = some v := by
  unfold World.cell? at h
  split at h
  · rename_i c e fr hb
    split at h
    · cases h
    · rename_i hs
      exact ⟨by simpa using hs, c, e, fr, hb, h⟩
  · cases h

/-- A slice of strings, as data. -/
theorem VI_strs {H : Type} {enc : TypeId × Value → H} {w : World} {a0 : Option Addr} {n0 c0 : Nat} {d : DataW H} {ps : List MemPlace} {held : Bool} (h : DataW.Trod enc Go.Proofs.Try.prog w 0 (fun _ => true) held 22 (.slice a0 n0 c0) d ps) :
    ∃ l : List Str, VI (fun b => w.heap[b]?) (.lst (l.map sv)) (.slice a0 n0 c0) ∧ l.length ≤ Go.Proofs.Ytpkmljhdaijanaa.Rows.uptoBulk d := by
  obtain ⟨n, hn⟩ := h
  rcases Go.Deep.open_strs Go.Proofs.Try.underlying22 Go.Proofs.Try.underlying9 (by kernel_rfl) hn with ⟨hcs, hx⟩ | ⟨a, len, cap, m, Sx, hcs, _, hl, hm, hmm, hx, hcell⟩
  · simp [Value.cells] at hcs
    obtain ⟨rfl, rfl, rfl⟩ := hcs
    exact ⟨[], .nil, Nat.zero_le _⟩
  · simp [Value.cells] at hcs
    obtain ⟨rfl, rfl, rfl⟩ := hcs
    simp only [if_true] at hmm
    subst hmm
    simp only [Prod.mk.injEq] at hx
    obtain ⟨rfl, _⟩ := hx
    refine ⟨(List.range n0).map fun i => (Sx i).data.toList, ?_, ?_⟩
    · rcases Nat.eq_zero_or_pos n0 with h0 | h0
      · subst h0; exact .empty _ _
      · obtain ⟨hs, cs, e, fr, hb, hc0⟩ := cell_block (hcell 0 (by omega)).1
        obtain ⟨b, off, sp⟩ := a
        have hsp : sp = none := by
          have : ((⟨b, off, sp⟩ : Addr).add 0) = ⟨b, off, sp⟩ := by simp [Addr.add]
          rw [this] at hs; exact hs
        subst hsp
        have hadd : ∀ k, ((⟨b, off, none⟩ : Addr).add k) = ⟨b, off + k, none⟩ := fun k => add_none b off k
        rw [hadd] at hb
        have each : ∀ i, i < n0 → at_ cs (off + i) = .string (Sx i) ∧ off + i < cs.size := by
          intro i hi
          obtain ⟨_, cs', e', fr', hb', hc'⟩ := cell_block (hcell i (by omega)).1
          rw [hadd] at hb' hc'
          rw [hb] at hb'
          simp only [Option.some.injEq, Go.Obj.cells.injEq] at hb'
          obtain ⟨rfl, rfl, rfl⟩ := hb'
          have hlt := (Array.getElem?_eq_some_iff.1 hc').1
          refine ⟨?_, hlt⟩
          simp only [at_, Array.getD_eq_getD_getElem?, hc', Option.getD_some]
        have hlen : (((List.range n0).map fun i => (Sx i).data.toList).map sv).length = n0 := by simp
        have key : VI (fun b => w.heap[b]?) (.lst (((List.range n0).map fun i => (Sx i).data.toList).map sv)) (.slice (some ⟨b, off, none⟩) (((List.range n0).map fun i => (Sx i).data.toList).map sv).length m) := by
          refine .lst _ b off m cs e fr 1 ?_ (by rw [hlen]; omega) hb (by decide) ?_ ?_ ?_
          · intro h; rw [h] at hlen; simp at hlen; omega
          · intro i x hx
            simp only [List.getElem?_map, Option.map_eq_some_iff] at hx
            obtain ⟨_, _, rfl⟩ := hx
            rfl
          · rw [hlen]
            have := (each (n0 - 1) (by omega)).2
            omega
          · intro i x j y hx hy
            have hi := (List.getElem?_eq_some_iff.1 hx).1
            rw [hlen] at hi
            simp only [List.getElem?_map, List.getElem?_range hi, Option.map_some, Option.some.injEq] at hx
            subst hx
            match j, hy with
            | 0, hy =>
              simp [sv, IV.cells] at hy
              subst hy
              simp only [Nat.mul_one, Nat.add_zero]
              rw [(each i hi).1]
              have := VI_sv (M := fun b => w.heap[b]?) (Sx i)
              simpa [sv] using this
            | j + 1, hy => simp [sv, IV.cells] at hy
        rw [hlen] at key
        exact key
    · have := bulk_len ((List.range n0).map fun i => (DataW.lit (.string (Sx i).data.toList) : DataW H))
      simp only [Go.Proofs.Ytpkmljhdaijanaa.Rows.uptoBulk, List.length_map, List.length_range] at this ⊢
      omega
end Go.Abs

namespace Go.Proofs.Ytpkmljhdaijanaa.termNames
set_option maxRecDepth 100000 in
theorem contract (H : Type) (enc : TypeId × Value → H) (W : World) (args : Array Value) (ds gs : List (DataW H)) (before : List MemPlace) (base : Nat)
    (hval : ∀ (j : Nat) t v, Try.f3.params[j]? = some t → args[j]? = some v → Value.okWide Try.prog W .any base t v)
    (hW : DataW.Whole enc Try.prog Try.f3.params.toList Rows.termNamesSpec.vars false W args.toList ds gs before) (hk : Rows.uptoSmall H (ds ++ gs) = true) :
    Calls Try.prog 3 args W fun e W' => ∃ v, e = .returned v ∧ Rows.termNamesSpec.post enc Try.prog Try.f3 false true false false W args v W' := by
  have hW' := hW
  obtain ⟨p, q, hA0, hV, rfl, hfz, hnd⟩ := hW
  have hA : DataW.TrodAll enc Try.prog W 0 (fun _ => true) true Try.f3.params.toList args.toList ds p := hA0
  rw [Try.params3] at hA hval
  obtain ⟨v0, v1, d0, d1, p0, p1, rfl, rfl, rfl, h0, h1⟩ := trodAll_two hA
  obtain ⟨rfl, rfl⟩ := trodVars_none hV
  obtain ⟨s, rfl, rfl, rfl, hmax⟩ := open_string Try.underlying9 (hval 0 9 v0 rfl rfl) h0
  obtain ⟨a, len, cap, rfl⟩ := okWide_slice Try.underlying22 (hval 1 22 v1 rfl rfl)
  obtain ⟨l, hl, hlen⟩ := VI_strs h1
  have hb : Rows.uptoBulkAll (([DataW.lit (.string s.data.toList), d1] : List (DataW H)) ++ []) ≤ 1048576 := of_decide_eq_true hk
  simp only [List.append_nil, Rows.uptoBulkAll] at hb
  have hs : s.data.toList.length ≤ 9223372036854775807 := by
    rw [Array.length_toList]; exact hmax
  refine (calls_of_ret (ret3 s.data.toList l hs (by omega)) (M := fun b => W.heap[b]?) (fun _ _ h => h) ⟨rfl, fun i x hx => ?_⟩).mono fun e W' ⟨he, hB⟩ => ?_
  · match i, hx with
    | 0, hx => simp at hx; subst hx; exact VI_sv s
    | 1, hx => simp at hx; subst hx; exact hl
    | i + 2, hx => simp at hx
  · subst he
    exact ⟨_, rfl, law_post hW' rfl rfl rfl rfl rfl (by kernel_rfl) hB⟩

set_option maxRecDepth 100000 in
theorem lifted (os : Os) (started : os.Started) (H : Type) (enc : TypeId × Value → H) (F : Stop.Interp) :
    ReturnsInHanded {} Try.checked os 3 .any ((Rows.OpenSpec.upto Rows.termNamesSpec).pre6 enc Try.prog Try.f3 Rows.termNamesUptoRow.domain false) (((Rows.OpenSpec.upto Rows.termNamesSpec).at F).post enc Try.prog Try.f3 false true false false) := by
  refine returnsInHanded_of_cond (C := Try.checked) (s := Rows.OpenSpec.upto Rows.termNamesSpec) (k := Rows.uptoSmall) rfl own started (by kernel_rfl) Try.func3
    (OpenSpec.witness (enc := enc) (C := Try.checked) (s := Rows.OpenSpec.upto Rows.termNamesSpec) (k := Rows.uptoSmall) rfl false ⟨#[], #[.string .empty, .slice none 0 0], []⟩ 8 (by kernel_rfl) (by kernel_rfl) (by kernel_rfl)
      (x := ([.lit (.string []), .nil], [], [])) (by kernel_rfl) rfl (by kernel_rfl)) ?_
  intro W base args ds gs before hval hW _ hk _
  exact contract H enc W args ds gs before base hval hW hk

theorem proved : Rows.TermNamesUptoSaid :=
  OpenClaim.holds_of_cond 3 Try.f3 rfl rfl rfl rfl rfl rfl rfl ⟨rfl, rfl, rfl, rfl, rfl⟩ rfl rfl rfl rfl rfl (by kernel_rfl) Try.func3 (by kernel_rfl)
    (of_decide_eq_true (by kernel_rfl)) (by unfold Func.isWrapper; first | (rw [if_pos (by decide +kernel)]; kernel_rfl) | (rw [if_neg (by decide +kernel)]; exact ⟨rfl, rfl⟩))
    (fun os started H enc _ F => lifted os started H enc F)
end Go.Proofs.Ytpkmljhdaijanaa.termNames
