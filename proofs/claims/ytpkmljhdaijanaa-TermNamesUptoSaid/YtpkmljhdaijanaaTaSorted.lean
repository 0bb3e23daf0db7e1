/- The contract of sorted: a map's keys, sorted. -/
import Derived.Test.YtpkmljhdaijanaaTaClone
import Derived.WalkKit
import Derived.Maps.RangeRun
import Derived.Sort.OwnSortedInts
import Derived.Shelf.Slices.In.SortNone
open Go Go.Abs Go.RowKit Go.Sort
namespace Go.Abs

def keyInt (e : MapEntry) : Int := match e.key with
  | .int _ n => n
  | _ => 0

theorem perm_filter {l : List MapEntry} (hn : (l.map (·.born)).Nodup) (p : MapEntry → Bool) {e : MapEntry} (he : e ∈ l) (hp : p e = true) : (l.filter p).Perm (e :: l.filter fun x => p x && !(x.born == e.born)) := by
  induction l with
  | nil => simp at he
  | cons x r ih =>
    rw [List.map_cons, List.nodup_cons] at hn
    rcases List.mem_cons.1 he with rfl | hr
    · have h0 : r.filter (fun x => p x && !(x.born == e.born)) = r.filter p := by
        refine List.filter_congr fun y hy => ?_
        have : y.born ≠ e.born := fun h => hn.1 (h ▸ List.mem_map.2 ⟨y, hy, rfl⟩)
        have : (y.born == e.born) = false := by simpa using this
        rw [this]; simp
      rw [List.filter_cons, if_pos hp, List.filter_cons, h0]
      simp
    · have hne : (x.born == e.born) = false := by
        have : x.born ≠ e.born := fun h => hn.1 (h ▸ List.mem_map.2 ⟨e, hr, rfl⟩)
        simpa using this
      have := ih hn.2 hr
      rw [List.filter_cons, List.filter_cons, hne]
      cases p x with
      | true => exact (this.cons x).trans (.swap _ _ _)
      | false => simpa using this

theorem left_list (es : Array MapEntry) (seen : Array Nat) : (leftOf es seen).toList = es.toList.filter fun x => !seen.contains x.born := by simp [leftOf]

theorem left_step {es : Array MapEntry} {seen : Array Nat} {e : MapEntry} (hn : (es.toList.map (·.born)).Nodup) (he : e ∈ (leftOf es seen).toList) : (leftOf es seen).toList.Perm (e :: (leftOf es (seen.push e.born)).toList) := by
  have hm := mem_left he
  have h1 := perm_filter hn (fun x => !seen.contains x.born) hm.1 (by simpa using hm.2)
  rw [left_list, left_list]
  refine h1.trans (List.Perm.of_eq ?_)
  congr 1
  refine List.filter_congr fun x _ => ?_
  rw [Array.contains_push]
  cases seen.contains x.born <;> simp

theorem cell_new (w : World) (v : Value) (t : TypeId) : ∀ (j : Nat) u, [v][j]? = some u → (w.alloc (.cells #[v] t)).cell? ((⟨w.heap.size, 0, none⟩ : Addr).add j) = some u := by
  intro j u h
  match j, h with
  | 0, h =>
    simp at h; subst h
    have h0 : (⟨w.heap.size, 0, none⟩ : Addr).add 0 = ⟨w.heap.size, 0, none⟩ := by simp [Addr.add]
    rw [h0]
    simp only [World.cell?, heap_alloc_new]
    rfl
  | j + 1, h => simp at h

set_option maxRecDepth 100000 in
set_option maxHeartbeats 1000000 in
theorem walk48 (bm : Nat) (es : Array MapEntry) (clk : Nat) (w : World) (hb : w.heap[bm]? = some (.map es clk)) (hbn : Born es clk) (hk : ∀ x ∈ es.toList, x.key = .int .i64 (keyInt x)) (hsz : es.size ≤ 4294967296) :
    Calls Go.Proofs.Try.prog 48 #[.map (some bm)] w fun e w' => ∃ (v : Value) (zs : List Int), e = .returned v ∧ zs.Perm (es.toList.map keyInt) ∧ w'.ownsRow w.heap.size 3 1 v zs.length ((zs.mergeSort fun x y => decide (x ≤ y)).map (Value.int .i64)) ∧ Below w.heap.size w w' := by
  have hrg := run_range_map (P := Go.Proofs.Try.prog) w 74 3 4 bm es clk Go.Proofs.Try.underlying74 hb
  have hbl : bm < w.heap.size := (Array.getElem?_eq_some_iff.1 hb).1
  obtain ⟨i0, hi, hz0, hz1, hz2⟩ := info_parts (show (Go.Proofs.Try.prog.info? 3).map (fun i => (i.zero, i.size, i.bytes)) = some (some (.int .i64 0), 1, 8) by kernel_rfl)
  go_enter Go.Proofs.Try.func48, Go.Proofs.Try.ntmps48
  go_wp2
  go_loopw [3] (fun v wr => ∃ (seen : Array Nat) (ss : List Int), wr.heap[w.heap.size]? = some (.mapIter (some bm) clk seen clk) ∧ wr.heap[bm]? = some (.map es clk) ∧ wr.ownsRow w.heap.size 3 1 v ss.length (ss.map (Value.int .i64)) ∧
      (ss ++ (leftOf es seen).toList.map keyInt).Perm (es.toList.map keyInt) ∧ Below w.heap.size w wr) (fun _ wr => (leftOf es (wr.iterSeen w.heap.size)).size)
  case atStart =>
    refine ⟨#[], [], heap_alloc_new w _, ?_, ⟨rfl, .inl ⟨rfl, rfl⟩⟩, ?_, (Below.refl _ _).alloc (Nat.le_refl _) _⟩
    · rw [heap_alloc_old w _ hbl]; exact hb
    · have : (leftOf es #[]).toList = es.toList := by rw [left_list]; exact List.filter_eq_self.2 (by simp)
      rw [this]; simp
  case round =>
    obtain ⟨seen, ss, hit, hmap, hrow, hperm, hbel⟩ := hrel
    have hle : ss.length ≤ es.size := by
      have := hperm.length_eq
      simp at this
      omega
    rcases run_next_at (P := Go.Proofs.Try.prog) wr 0 w.heap.size bm clk clk seen es clk hit hmap hbn.1 (Nat.le_refl _) with ⟨h0, hrun⟩ | ⟨e, he, w1, hw1, hrun⟩
    · have hnx : ∀ ty, (Instr.next (.pointer (some ⟨w.heap.size, 0, none⟩)) false ty).run Go.Proofs.Try.prog wr = _ := fun _ => hrun
      have hp : ss.Perm (es.toList.map keyInt) := by
        have : (leftOf es seen) = #[] := Array.eq_empty_of_size_eq_zero h0
        rw [this] at hperm
        simpa using hperm
      rcases hrow.2 with ⟨hnil, hlen⟩ | ⟨g, cap, cur, hv, hbase, hbk, h1, h2, h3, h4⟩
      · subst hnil
        obtain rfl : ss = [] := List.eq_nil_of_length_eq_zero hlen
        have hc : Calls Go.Proofs.Try.prog 79 #[.slice none 0 0] wr fun e w' => e = .returned (.tuple #[]) ∧ w' = wr := Go.Proofs.Any.slices_Sort_int_none Go.Proofs.Try.lays189 none 0 wr
        go_wp2_with (go_at_call 79; refine hc.mono ?_; rintro e w' ⟨rfl, rfl⟩)
        go_ret
        exact ⟨_, [], rfl, hp, (by rw [List.mergeSort_nil]; exact hrow), hbel⟩
      · subst hv
        have hH : Holds (Value.int .i64) wr g 0 ss.toArray := holds_of_blockI hbk (by simpa using h4)
        have hc : Calls Go.Proofs.Try.prog 79 #[.slice (some ⟨g, 0, none⟩) ss.length cap] wr fun e w' => e = .returned (.tuple #[]) ∧ ∃ n os, w' = grow (putRow (Value.int .i64) (Sort.ahead wr n) g 0 (ss.mergeSort fun x y => decide (x ≤ y)).toArray) os :=
          Go.Proofs.Any.slices_Sort_int Go.Proofs.Try.lays189 g 0 cap ss wr hH (Array.getElem?_eq_some_iff.1 hbk).1 (by omega)
        go_wp2_with (go_at_call 79; refine hc.mono ?_; rintro e w' ⟨rfl, nn, os, rfl⟩)
        go_ret
        exact ⟨_, ss, rfl, hp, ownsRow_sortedI (by simp) hbase hbk h1 h2 h3, hbel.grown (grownBy_sortedI _) hbel.size (fun j hj => by cases hj; exact hbase)⟩
    · have hm := mem_left he
      rw [hk e hm.1] at hrun
      have hheap : w1.heap = wr.heap := by rcases hw1 with rfl | rfl <;> rfl
      have hrl : w.heap.size < wr.heap.size := (Array.getElem?_eq_some_iff.1 hit).1
      have hit2 : (ChangeMaps.setBlock w1 w.heap.size (.mapIter (some bm) clk (seen.push e.born) clk)).heap[w.heap.size]? = some (.mapIter (some bm) clk (seen.push e.born) clk) := by
        simp [ChangeMaps.setBlock, hheap, hrl]
      have hmap2 : (ChangeMaps.setBlock w1 w.heap.size (.mapIter (some bm) clk (seen.push e.born) clk)).heap[bm]? = some (.map es clk) := by
        simp only [ChangeMaps.setBlock, hheap, Array.getElem?_setIfInBounds]
        rw [if_neg (by omega)]; exact hmap
      have hg2 : wr.grownBy (ChangeMaps.setBlock w1 w.heap.size (.mapIter (some bm) clk (seen.push e.born) clk)) (some w.heap.size) := by
        refine ⟨?_, ?_, ?_, ?_, fun k hk hne => ?_⟩
        · rcases hw1 with rfl | rfl <;> rfl
        · rcases hw1 with rfl | rfl <;> rfl
        · rcases hw1 with rfl | rfl <;> rfl
        · simp [ChangeMaps.setBlock, hheap]
        · simp only [ChangeMaps.setBlock, hheap, Array.getElem?_setIfInBounds]
          rw [if_neg (fun e => hne (by rw [e]))]
      have hen := run_entry_at (P := Go.Proofs.Try.prog) _ w.heap.size bm clk seen es clk e hit2 hmap2 hm.1 hbn.2
      rw [hk e hm.1] at hen
      have hs2 : (ChangeMaps.setBlock w1 w.heap.size (.mapIter (some bm) clk (seen.push e.born) clk)).heap.size = wr.heap.size := by simp [ChangeMaps.setBlock, hheap]
      generalize ChangeMaps.setBlock w1 w.heap.size (.mapIter (some bm) clk (seen.push e.born) clk) = w2 at hrun hit2 hmap2 hg2 hen hs2
      have hnx : ∀ ty, (Instr.next (.pointer (some ⟨w.heap.size, 0, none⟩)) false ty).run Go.Proofs.Try.prog wr = _ := fun _ => hrun
      have hown : Value.ownBlock u3 ≠ some w.heap.size := by
        rcases hrow.2 with ⟨h1, _⟩ | ⟨g, cap, cur, h1, _, h2, _⟩
        · rw [h1]; simp [Value.ownBlock]
        · rw [h1]
          simp only [Value.ownBlock]
          intro e
          cases e
          rw [hit] at h2; cases h2
      have hrow2 := hrow.kept hg2 (.inr hown)
      have hle2 : ss.length < es.size := by
        have := hperm.length_eq
        have h3 := List.length_pos_of_mem he
        simp at this h3
        omega
      have hsz2 : w.heap.size ≤ w2.heap.size := by omega
      clear hs2
      go_wp2_with (at_builtin; go_loud (refine wpList_append_own _ rfl _ _ 30 rfl w.heap.size 3 i0 (.int .i64 0) 1 8 Go.Proofs.Try.underlying30 hi hz0 hz1 hz2 rfl (by decide) _ _ _ rfl (hrow2.alloc _) ⟨w2.heap.size, 0, none⟩ 1 1 [.int .i64 (keyInt e)] rfl rfl (cell_new _ _ _) (by simp [Value.oneCell']) (by unfold maxLen; omega) (by omega) (by simp; omega) ?_); intro v' w3 hown' hg3 hnil3)
      have hg3' : (w2.alloc (.cells #[.int .i64 (keyInt e)] 3)).grownBy w3 u3.ownBlock := hg3
      clear hg3
      have hb3 : ∀ k, k < w2.heap.size → (k = w.heap.size ∨ k = bm) → w3.heap[k]? = w2.heap[k]? := by
        intro k hk hor
        rw [hg3'.block k (by simp; omega) (fun e => ?_), heap_alloc_old w2 _ hk]
        rcases hrow.2 with ⟨h1, _⟩ | ⟨g, cap, cur, h1, h2, _⟩
        · rw [h1] at e; simp [Value.ownBlock] at e
        · rcases hor with rfl | rfl
          · exact hown e.symm
          · rw [h1] at e; simp only [Value.ownBlock, Option.some.injEq] at e; omega
      have hit3 : w3.heap[w.heap.size]? = some (.mapIter (some bm) clk (seen.push e.born) clk) := by rw [hb3 _ (Array.getElem?_eq_some_iff.1 hit2).1 (.inl rfl)]; exact hit2
      have hmap3 : w3.heap[bm]? = some (.map es clk) := by rw [hb3 _ (Array.getElem?_eq_some_iff.1 hmap2).1 (.inr rfl)]; exact hmap2
      go_roundw
      case rel =>
        refine ⟨seen.push e.born, ss ++ [keyInt e], hit3, hmap3, by simpa using hown', ?_, ?_⟩
        · refine List.Perm.trans ?_ hperm
          rw [List.append_assoc]
          refine List.Perm.append_left ss ?_
          exact ((left_step hbn.2 he).map keyInt).symm
        · refine ((hbel.grown hg2 hbel.size (fun j hj => by cases hj; exact Nat.le_refl _)).alloc hsz2 _).grown hg3' (by simp; omega) (fun j hj => ?_)
          rcases hrow.2 with ⟨h1, _⟩ | ⟨g, cap, cur, h1, h2, _⟩
          · rw [h1] at hj; simp [Value.ownBlock] at hj
          · rw [h1] at hj; simp only [Value.ownBlock, Option.some.injEq] at hj; omega
      case measure =>
        have e1 : w3.iterSeen w.heap.size = seen.push e.born := by simp [World.iterSeen, hit3]
        have e2 : wr.iterSeen w.heap.size = seen := by simp [World.iterSeen, hit]
        rw [e1, e2]
        exact left_shrinks es seen e he

theorem walk48nil (w : World) : Calls Go.Proofs.Try.prog 48 #[.map none] w fun e w' => e = .returned (.slice none 0 0) ∧ Below w.heap.size w w' := by
  have hrg := run_range_nilMap (P := Go.Proofs.Try.prog) w 74 3 4 Go.Proofs.Try.underlying74
  have hnx : ∀ ty, (Instr.next (.pointer (some ⟨w.heap.size, 0, none⟩)) false ty).run Go.Proofs.Try.prog (w.alloc (.mapIter none 0 #[] 0)) = _ := fun ty => run_next_nilMap w ty 0 0 #[]
  have hc : ∀ u, Calls Go.Proofs.Try.prog 79 #[.slice none 0 0] u fun e w' => e = .returned (.tuple #[]) ∧ w' = u := fun u => Go.Proofs.Any.slices_Sort_int_none Go.Proofs.Try.lays189 none 0 u
  go_enter Go.Proofs.Try.func48, Go.Proofs.Try.ntmps48
  go_wp2
  refine wp_loop_rounds 1 ?_
  rw [rounds_succ]
  go_wp2_with (go_at_call 79; refine (hc _).mono ?_; rintro e w' ⟨rfl, rfl⟩)
  go_ret
  exact ⟨rfl, (Below.refl _ _).alloc (Nat.le_refl _) _⟩

/-! the two sorts are one -/
theorem ins_perm (x : Int) : ∀ l, (ins x l).Perm (x :: l)
  | [] => .refl _
  | y :: r => by
    unfold ins
    split
    · exact .refl _
    · exact ((ins_perm x r).cons y).trans (.swap _ _ _)
theorem isort_perm : ∀ l, (isort l).Perm l
  | [] => .refl _
  | x :: r => (ins_perm x _).trans ((isort_perm r).cons x)
theorem ins_sorted (x : Int) : ∀ l : List Int, l.Pairwise (· ≤ ·) → (ins x l).Pairwise (· ≤ ·)
  | [], _ => by simp [ins]
  | y :: r, h => by
    unfold ins
    have h' := List.pairwise_cons.1 h
    split
    · rename_i hle
      refine List.pairwise_cons.2 ⟨fun z hz => ?_, h⟩
      rcases List.mem_cons.1 hz with rfl | hz
      · exact hle
      · have := h'.1 z hz; omega
    · rename_i hle
      refine List.pairwise_cons.2 ⟨fun z hz => ?_, ins_sorted x r h'.2⟩
      rcases List.mem_cons.1 ((ins_perm x r).mem_iff.1 hz) with rfl | hz
      · omega
      · exact h'.1 z hz
theorem isort_sorted : ∀ l : List Int, (isort l).Pairwise (· ≤ ·)
  | [] => .nil
  | x :: r => ins_sorted x _ (isort_sorted r)
theorem sorts_eq {zs ks : List Int} (h : zs.Perm ks) : (zs.mergeSort fun x y => decide (x ≤ y)) = isort ks := by
  have h1 := List.pairwise_mergeSort (le := fun x y : Int => decide (x ≤ y)) (fun a b c h1 h2 => by simp at *; omega) (fun a b => by simp; omega) zs
  refine List.Perm.eq_of_pairwise (le := fun a b : Int => a ≤ b) (fun a b _ _ h1 h2 => by omega) (h1.imp fun h => by simpa using h) (isort_sorted ks) ?_
  exact (List.mergeSort_perm zs _).trans (h.trans (isort_perm ks).symm)

theorem int_all {ks : List IV} (h : ks.all isIntIV = true) : ks = (ints ks).map (.int .i64) := by
  induction ks with
  | nil => rfl
  | cons x r ih =>
    rw [List.all_cons, Bool.and_eq_true] at h
    have hr := ih h.2
    cases x with
    | int k n =>
      cases k <;> simp [isIntIV] at h
      simp only [ints, List.map_cons]
      rw [← hr]
    | _ => simp [isIntIV] at h

theorem ints_len : ∀ {ks : List IV}, ks.all isIntIV = true → (ints ks).length = ks.length := by
  intro ks h
  have := congrArg List.length (int_all h)
  simpa using this.symm

theorem orc48 {ks us : List IV} (hs : ks.all isIntIV = true) (hl : ks.length ≤ 4294967296) {M : Mem} {w : World} {vs : Array Value} (hm : ∀ b o, M b = some o → w.heap[b]? = some o) (hv : VL (VI M) [.fmp ks us] vs) :
    Calls Go.Proofs.Try.prog 48 vs w fun e w' => ∃ cv, e = .returned cv ∧ WS (QN w) w w' ∧ OrcEnd w M cv w' (.own 3 1 ((isort (ints ks)).map (.int .i64))) := by
  obtain ⟨v, rfl, hx⟩ := one_arg hv
  have hfit : ∀ x ∈ (isort (ints ks)).map (IV.int .i64), IV.cells x = [x] ∧ (AV.imm x).fits 1 = true := by
    intro x hx
    obtain ⟨z, _, rfl⟩ := List.mem_map.1 hx
    exact ⟨rfl, rfl⟩
  cases hx with
  | fmp _ _ b es clk hM hk hv hks hvs hbn =>
    have hkeys : ∀ (i : Nat) (h : i < es.size), es[i].key = .int .i64 ((ints ks).getD i 0) := by
      intro i h
      have h1 : ks[i]? = some (.int .i64 ((ints ks).getD i 0)) := by
        have h2 := int_all hs
        have h3 : i < (ints ks).length := by rw [ints_len hs]; omega
        have h4 : (ints ks)[i]? = some ((ints ks).getD i 0) := by rw [List.getD_eq_getElem?_getD, List.getElem?_eq_getElem h3]; rfl
        have h6 := congrArg (fun l => l[i]?) h2
        simp only [List.getElem?_map, h4, Option.map_some] at h6
        exact h6
      have h5 := VI_int (hks i _ h1)
      rwa [getD_entry es i h] at h5
    have hkey : ∀ x ∈ es.toList, x.key = .int .i64 (keyInt x) := by
      intro x hx
      obtain ⟨i, hi, rfl⟩ := List.getElem_of_mem hx
      have h6 := hkeys i (by simpa using hi)
      have : (es.toList[i]).key = .int .i64 ((ints ks).getD i 0) := by simpa using h6
      simp only [keyInt, this]
    have hlist : es.toList.map keyInt = ints ks := by
      apply List.ext_getElem
      · simp [ints_len hs, hk]
      · intro i h1 h2
        have h7 : i < es.size := by simpa using h1
        have h8 := hkeys i h7
        simp only [List.getElem_map, Array.getElem_toList, keyInt, h8]
        simp [List.getD_eq_getElem?_getD, h2]
    refine (walk48 b es clk w (hm _ _ hM) hbn hkey (by omega)).mono fun e w' ⟨v, zs, he, hp, ho, hB⟩ => ?_
    subst he
    rw [hlist] at hp
    rw [sorts_eq hp] at ho
    have hlen : zs.length = ((isort (ints ks)).map (IV.int .i64)).length := by rw [List.length_map, (isort_perm _).length_eq, hp.length_eq]
    rw [hlen] at ho
    refine orc_own hm hB ho hfit fun i x hx => ?_
    rw [List.getElem?_map, Option.map_eq_some_iff] at hx
    obtain ⟨z, hz, rfl⟩ := hx
    have : ((isort (ints ks)).map (Value.int .i64)).getD i Go.undef = .int .i64 z := by simp [hz]
    rw [this]
    exact .int _ z

theorem orcOK : OrcOK CC := by
  intro f ivs r h
  have h' : orcs f ivs = some r := h
  unfold orcs at h'
  split at h'
  · split at h'
    · rename_i hc
      cases h'
      exact ⟨⟨_, Go.Proofs.Try.func56, by kernel_rfl⟩, fun M w vs hm hv => orc56 hc.1 hc.2 hm hv⟩
    · cases h'
  · split at h'
    · rename_i hc
      cases h'
      exact ⟨⟨_, Go.Proofs.Try.func48, by kernel_rfl⟩, fun M w vs hm hv => orc48 hc.1 hc.2 hm hv⟩
    · cases h'
  · cases h'
end Go.Abs
