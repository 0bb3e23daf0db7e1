/- Names: the first one that is none of some. -/
import Derived.Test.YtpkmljhdaijanaaTaNames3
open Go Go.Abs
namespace Go.Abs
set_option maxRecDepth 100000
set_option maxHeartbeats 2000000

theorem word_kid (n c : Nat) (hc : c < 26) : wordN (26 * n + 1 + c) = wordN n ++ [UInt8.ofNat (97 + c)] := by
  have e : 26 * n + 1 + c = (26 * n + c) + 1 := by omega
  rw [e, wordN_succ]
  have h1 : (26 * n + c) / 26 = n := by omega
  have h2 : (26 * n + c) % 26 = c := by omega
  rw [h1, h2]

/-- Words, from a number on. -/
def wrow (a m : Nat) : List AV := (List.range m).map fun j => .imm (sv (wordN (a + j)))
theorem wrow_len (a m : Nat) : (wrow a m).length = m := by simp [wrow]
theorem wrow_get {a m j : Nat} (h : j < m) : (wrow a m)[j]? = some (.imm (sv (wordN (a + j)))) := by simp [wrow, h]
theorem wrow_succ (a m : Nat) : wrow a m ++ [.imm (sv (wordN (a + m)))] = wrow a (m + 1) := by simp [wrow, List.range_succ]
theorem wrow_fits (a m : Nat) : (wrow a m).all (AV.fits 1) = true := by
  rw [List.all_eq_true]
  intro x hx
  simp only [wrow, List.mem_map] at hx
  obtain ⟨j, _, rfl⟩ := hx
  rfl

/-- Who is told the words: goes on up to the one with a number. -/
structure Cons (q n0 N : Nat) (K Q : (Nat → Obj) → Prop) : Prop where
  frame : ∀ G G', K G → (∀ o, o < n0 → G' o = G o) → K G'
  step : ∀ n G nx, 1 ≤ n → n < N → K G → n0 ≤ nx → Rnd CC q [.imm (sv (wordN n))] G nx fun v G' nx' => v = .imm (.bool true) ∧ K G' ∧ nx ≤ nx' ∧ ∀ o, n0 ≤ o → G' o = G o
  last : ∀ G nx, K G → n0 ≤ nx → Rnd CC q [.imm (sv (wordN N))] G nx fun v G' _ => v = .imm (.bool false) ∧ Q G'

/-- What of the next row is made. -/
def Long (n0 nx o2 a cnt : Nat) (G : Nat → Obj) (v : AV) : Prop :=
  (cnt = 0 ∧ v = .nils) ∨ ∃ o, n0 ≤ o ∧ o < nx ∧ o ≠ o2 ∧ v = .row o cnt ∧ G o = .row 9 1 (wrow (26 * a + 1) cnt) false ∧ 0 < cnt

theorem Long.frame {n0 nx nx' o2 a cnt : Nat} {G G' : Nat → Obj} {v : AV} (h : Long n0 nx o2 a cnt G v) (hn : nx ≤ nx') (hG : ∀ o, n0 ≤ o → o < nx → G' o = G o) : Long n0 nx' o2 a cnt G' v := by
  rcases h with h | ⟨o, h1, h2, h3, h4, h5, h6⟩
  · exact .inl h
  · exact .inr ⟨o, h1, by omega, h3, h4, by rw [hG o h1 h2]; exact h5, h6⟩

theorem cal41 {q n0 N : Nat} {G0 : Nat → Obj} {K Q : (Nat → Obj) → Prop} (hc : Cons q n0 N K Q) (hN1 : 1 ≤ N) (hN : N ≤ 4294967296) (hG : K G0) : Cal CC 41 [.yld q] G0 n0 fun _ G' _ => Q G' := by
  refine Cal.of (fn := Go.Proofs.Try.f41) (by kernel_rfl) rfl rfl ?_
  refine W.seq (W.region ?_)
  refine R.op1 (O.buildS (xs := [.imm (sv [])]) rfl rfl rfl (by decide) rfl rfl (by decide)) rfl ?_
  (repeat (first | refine R.op0 (by first | exact O.svEq rfl rfl | exact O.svNe rfl rfl | exact O.lenSv rfl rfl | exact O.move rfl | exact O.assign rfl | exact O.pickT rfl (by first | with_reducible rfl | assumption) rfl | exact O.pickF rfl (by first | with_reducible rfl | assumption) rfl | exact O.lenL rfl rfl | exact O.lenS rfl rfl | exact O.int rfl rfl (add64 (by omega)) | exact O.int rfl rfl (sub64 (by omega)) | exact O.int rfl rfl (add8 (by omega)) | exact O.cmp rfl rfl rfl | exact O.str rfl rfl rfl | exact O.boolEq rfl rfl rfl | exact O.not rfl) rfl ?_ | refine R.guardT1 rfl rfl (by first | with_reducible rfl | assumption) ?_ | refine R.guardT0 rfl rfl (by first | with_reducible rfl | assumption) ?_ | refine R.guardF1 rfl rfl (by first | with_reducible rfl | assumption) rfl ?_ | refine R.guardF0 rfl rfl (by first | with_reducible rfl | assumption) rfl ?_ | refine R.guardN rfl rfl rfl ?_ | refine R.done ?_ | refine W.seq ?_ | refine W.region ?_ | refine W.draw ?_ | refine W.block ?_ | refine W.condT rfl (by first | with_reducible rfl | assumption) ?_ | refine W.condF rfl (by first | with_reducible rfl | assumption) ?_ | refine W.retAft ?_ | refine W.retBlk ?_ | refine W.retLop ?_ | refine W.exitAft ?_ | refine W.exitLop ?_ | refine W.exitBlk ?_ | refine W.exitBlkNe rfl ?_ | refine W.skipAft ?_ | refine W.skipBlk ?_ | refine R.skip ?_))
  -- the rows
  refine W.loop (X := Nat × Nat × Nat) (fun x => [(0, .yld q), (2, .row x.1 x.2.2)])
    (fun x nx G => n0 ≤ x.1 ∧ x.1 < nx ∧ n0 ≤ nx ∧ K G ∧ G x.1 = .row 9 1 (wrow x.2.1 x.2.2) false ∧ x.2.1 + x.2.2 = 26 * x.2.1 + 1 ∧ 26 * x.2.1 < N) (fun x => N - x.2.1) (n0 + 0, 0, 1)
    (.cons rfl (.cons rfl (.nil _))) ⟨by simp, by simp, by simp, ?_, ?_, rfl, by show 26 * 0 < N; omega⟩ ?_
  · exact hc.frame _ _ hG fun o ho => upd_ne _ _ _ _ (by omega)
  · rw [upd_same]
    have : wordN 0 = [] := by rw [wordN]
    simp [wrow, List.range_succ, this]
    rfl
  rintro ⟨o2, a, m⟩ nx G ⟨h1, h2, h3, hK, hR, ham, haN⟩
  dsimp only at h1 h2 hR ham haN ⊢
  (repeat (first | refine R.op0 (by first | exact O.svEq rfl rfl | exact O.svNe rfl rfl | exact O.lenSv rfl rfl | exact O.move rfl | exact O.assign rfl | exact O.pickT rfl (by first | with_reducible rfl | assumption) rfl | exact O.pickF rfl (by first | with_reducible rfl | assumption) rfl | exact O.lenL rfl rfl | exact O.lenS rfl rfl | exact O.int rfl rfl (add64 (by omega)) | exact O.int rfl rfl (sub64 (by omega)) | exact O.int rfl rfl (add8 (by omega)) | exact O.cmp rfl rfl rfl | exact O.str rfl rfl rfl | exact O.boolEq rfl rfl rfl | exact O.not rfl) rfl ?_ | refine R.guardT1 rfl rfl (by first | with_reducible rfl | assumption) ?_ | refine R.guardT0 rfl rfl (by first | with_reducible rfl | assumption) ?_ | refine R.guardF1 rfl rfl (by first | with_reducible rfl | assumption) rfl ?_ | refine R.guardF0 rfl rfl (by first | with_reducible rfl | assumption) rfl ?_ | refine R.guardN rfl rfl rfl ?_ | refine R.done ?_ | refine W.seq ?_ | refine W.region ?_ | refine W.draw ?_ | refine W.block ?_ | refine W.condT rfl (by first | with_reducible rfl | assumption) ?_ | refine W.condF rfl (by first | with_reducible rfl | assumption) ?_ | refine W.retAft ?_ | refine W.retBlk ?_ | refine W.retLop ?_ | refine W.exitAft ?_ | refine W.exitLop ?_ | refine W.exitBlk ?_ | refine W.exitBlkNe rfl ?_ | refine W.skipAft ?_ | refine W.skipBlk ?_ | refine R.skip ?_))
  refine R.op0 (O.lenR rfl rfl hR (wrow_len a m)) rfl ?_
  (repeat (first | refine R.op0 (by first | exact O.svEq rfl rfl | exact O.svNe rfl rfl | exact O.lenSv rfl rfl | exact O.move rfl | exact O.assign rfl | exact O.pickT rfl (by first | with_reducible rfl | assumption) rfl | exact O.pickF rfl (by first | with_reducible rfl | assumption) rfl | exact O.lenL rfl rfl | exact O.lenS rfl rfl | exact O.int rfl rfl (add64 (by omega)) | exact O.int rfl rfl (sub64 (by omega)) | exact O.int rfl rfl (add8 (by omega)) | exact O.cmp rfl rfl rfl | exact O.str rfl rfl rfl | exact O.boolEq rfl rfl rfl | exact O.not rfl) rfl ?_ | refine R.guardT1 rfl rfl (by first | with_reducible rfl | assumption) ?_ | refine R.guardT0 rfl rfl (by first | with_reducible rfl | assumption) ?_ | refine R.guardF1 rfl rfl (by first | with_reducible rfl | assumption) rfl ?_ | refine R.guardF0 rfl rfl (by first | with_reducible rfl | assumption) rfl ?_ | refine R.guardN rfl rfl rfl ?_ | refine R.done ?_ | refine W.seq ?_ | refine W.region ?_ | refine W.draw ?_ | refine W.block ?_ | refine W.condT rfl (by first | with_reducible rfl | assumption) ?_ | refine W.condF rfl (by first | with_reducible rfl | assumption) ?_ | refine W.retAft ?_ | refine W.retBlk ?_ | refine W.retLop ?_ | refine W.exitAft ?_ | refine W.exitLop ?_ | refine W.exitBlk ?_ | refine W.exitBlkNe rfl ?_ | refine W.skipAft ?_ | refine W.skipBlk ?_ | refine R.skip ?_))
  -- the words of a row
  refine W.loop (X := Nat × AV) (fun x => [(0, .yld q), (9, .row o2 m), (10, .imm (.int .i64 m)), (11, .imm (.int .i64 x.1)), (3, x.2)])
    (fun x nx G => o2 < nx ∧ n0 ≤ nx ∧ K G ∧ G o2 = .row 9 1 (wrow a m) false ∧ x.1 ≤ m ∧ 26 * (a + x.1) < N ∧ Long n0 nx o2 a (26 * x.1) G x.2) (fun x => m - x.1) (0, .nils)
    (.cons rfl (.cons rfl (.cons rfl (.cons rfl (.cons rfl (.nil _)))))) ⟨by omega, by omega, hK, hR, Nat.zero_le _, by simpa using haN, .inl ⟨rfl, rfl⟩⟩ ?_
  rintro ⟨j, v⟩ nx G ⟨h2, h3, hK, hR, hj, hjN, hL⟩
  dsimp only at hj hjN hL ⊢
  (repeat (first | refine R.op0 (by first | exact O.svEq rfl rfl | exact O.svNe rfl rfl | exact O.lenSv rfl rfl | exact O.move rfl | exact O.assign rfl | exact O.pickT rfl (by first | with_reducible rfl | assumption) rfl | exact O.pickF rfl (by first | with_reducible rfl | assumption) rfl | exact O.lenL rfl rfl | exact O.lenS rfl rfl | exact O.int rfl rfl (add64 (by omega)) | exact O.int rfl rfl (sub64 (by omega)) | exact O.int rfl rfl (add8 (by omega)) | exact O.cmp rfl rfl rfl | exact O.str rfl rfl rfl | exact O.boolEq rfl rfl rfl | exact O.not rfl) rfl ?_ | refine R.guardT1 rfl rfl (by first | with_reducible rfl | assumption) ?_ | refine R.guardT0 rfl rfl (by first | with_reducible rfl | assumption) ?_ | refine R.guardF1 rfl rfl (by first | with_reducible rfl | assumption) rfl ?_ | refine R.guardF0 rfl rfl (by first | with_reducible rfl | assumption) rfl ?_ | refine R.guardN rfl rfl rfl ?_ | refine R.done ?_ | refine W.seq ?_ | refine W.region ?_ | refine W.draw ?_ | refine W.block ?_ | refine W.condT rfl (by first | with_reducible rfl | assumption) ?_ | refine W.condF rfl (by first | with_reducible rfl | assumption) ?_ | refine W.retAft ?_ | refine W.retBlk ?_ | refine W.retLop ?_ | refine W.exitAft ?_ | refine W.exitLop ?_ | refine W.exitBlk ?_ | refine W.exitBlkNe rfl ?_ | refine W.skipAft ?_ | refine W.skipBlk ?_ | refine R.skip ?_))
  refine W.cond rfl (fun hc1 => ?_) (fun hc1 => ?_)
  · have hlt : j < m := by have := of_decide_eq_true hc1; omega
    (repeat (first | refine R.op0 (by first | exact O.svEq rfl rfl | exact O.svNe rfl rfl | exact O.lenSv rfl rfl | exact O.move rfl | exact O.assign rfl | exact O.pickT rfl (by first | with_reducible rfl | assumption) rfl | exact O.pickF rfl (by first | with_reducible rfl | assumption) rfl | exact O.lenL rfl rfl | exact O.lenS rfl rfl | exact O.int rfl rfl (add64 (by omega)) | exact O.int rfl rfl (sub64 (by omega)) | exact O.int rfl rfl (add8 (by omega)) | exact O.cmp rfl rfl rfl | exact O.str rfl rfl rfl | exact O.boolEq rfl rfl rfl | exact O.not rfl) rfl ?_ | refine R.guardT1 rfl rfl (by first | with_reducible rfl | assumption) ?_ | refine R.guardT0 rfl rfl (by first | with_reducible rfl | assumption) ?_ | refine R.guardF1 rfl rfl (by first | with_reducible rfl | assumption) rfl ?_ | refine R.guardF0 rfl rfl (by first | with_reducible rfl | assumption) rfl ?_ | refine R.guardN rfl rfl rfl ?_ | refine R.done ?_ | refine W.seq ?_ | refine W.region ?_ | refine W.draw ?_ | refine W.block ?_ | refine W.condT rfl (by first | with_reducible rfl | assumption) ?_ | refine W.condF rfl (by first | with_reducible rfl | assumption) ?_ | refine W.retAft ?_ | refine W.retBlk ?_ | refine W.retLop ?_ | refine W.exitAft ?_ | refine W.exitLop ?_ | refine W.exitBlk ?_ | refine W.exitBlkNe rfl ?_ | refine W.skipAft ?_ | refine W.skipBlk ?_ | refine R.skip ?_))
    refine R.op0 (O.addrR rfl rfl rfl hR (wrow_len a m) ⟨by omega, by omega⟩ rfl) rfl ?_
    refine R.op0 (O.loadR rfl hR (wrow_len a m) (by rw [Int.toNat_natCast]; exact wrow_get hlt) rfl rfl rfl) rfl ?_
    (repeat (first | refine R.op0 (by first | exact O.svEq rfl rfl | exact O.svNe rfl rfl | exact O.lenSv rfl rfl | exact O.move rfl | exact O.assign rfl | exact O.pickT rfl (by first | with_reducible rfl | assumption) rfl | exact O.pickF rfl (by first | with_reducible rfl | assumption) rfl | exact O.lenL rfl rfl | exact O.lenS rfl rfl | exact O.int rfl rfl (add64 (by omega)) | exact O.int rfl rfl (sub64 (by omega)) | exact O.int rfl rfl (add8 (by omega)) | exact O.cmp rfl rfl rfl | exact O.str rfl rfl rfl | exact O.boolEq rfl rfl rfl | exact O.not rfl) rfl ?_ | refine R.guardT1 rfl rfl (by first | with_reducible rfl | assumption) ?_ | refine R.guardT0 rfl rfl (by first | with_reducible rfl | assumption) ?_ | refine R.guardF1 rfl rfl (by first | with_reducible rfl | assumption) rfl ?_ | refine R.guardF0 rfl rfl (by first | with_reducible rfl | assumption) rfl ?_ | refine R.guardN rfl rfl rfl ?_ | refine R.done ?_ | refine W.seq ?_ | refine W.region ?_ | refine W.draw ?_ | refine W.block ?_ | refine W.condT rfl (by first | with_reducible rfl | assumption) ?_ | refine W.condF rfl (by first | with_reducible rfl | assumption) ?_ | refine W.retAft ?_ | refine W.retBlk ?_ | refine W.retLop ?_ | refine W.exitAft ?_ | refine W.exitLop ?_ | refine W.exitBlk ?_ | refine W.exitBlkNe rfl ?_ | refine W.skipAft ?_ | refine W.skipBlk ?_ | refine R.skip ?_))
    -- the letters
    refine W.loop (X := Nat × AV) (fun x => [(0, .yld q), (9, .row o2 m), (10, .imm (.int .i64 m)), (11, .imm (.int .i64 j)), (5, .imm (sv (wordN (a + j)))), (6, .imm (.int .u8 ((97 + x.1 : Nat) : Int))), (3, x.2)])
      (fun x nx G => o2 < nx ∧ n0 ≤ nx ∧ K G ∧ G o2 = .row 9 1 (wrow a m) false ∧ x.1 ≤ 26 ∧ 26 * (a + j) + x.1 < N ∧ Long n0 nx o2 a (26 * j + x.1) G x.2) (fun x => 26 - x.1) (0, v)
      (.cons rfl (.cons rfl (.cons rfl (.cons rfl (.cons rfl (.cons rfl (.cons rfl (.nil _)))))))) ⟨by omega, by omega, hK, hR, Nat.zero_le _, by simpa using hjN, hL.frame (by omega) fun _ _ _ => rfl⟩ ?_
    rintro ⟨c, u⟩ nx G ⟨h2, h3, hK, hR, hc26, hcN, hL⟩
    dsimp only at hc26 hcN hL ⊢
    (repeat (first | refine R.op0 (by first | exact O.svEq rfl rfl | exact O.svNe rfl rfl | exact O.lenSv rfl rfl | exact O.move rfl | exact O.assign rfl | exact O.pickT rfl (by first | with_reducible rfl | assumption) rfl | exact O.pickF rfl (by first | with_reducible rfl | assumption) rfl | exact O.lenL rfl rfl | exact O.lenS rfl rfl | exact O.int rfl rfl (add64 (by omega)) | exact O.int rfl rfl (sub64 (by omega)) | exact O.int rfl rfl (add8 (by omega)) | exact O.cmp rfl rfl rfl | exact O.str rfl rfl rfl | exact O.boolEq rfl rfl rfl | exact O.not rfl) rfl ?_ | refine R.guardT1 rfl rfl (by first | with_reducible rfl | assumption) ?_ | refine R.guardT0 rfl rfl (by first | with_reducible rfl | assumption) ?_ | refine R.guardF1 rfl rfl (by first | with_reducible rfl | assumption) rfl ?_ | refine R.guardF0 rfl rfl (by first | with_reducible rfl | assumption) rfl ?_ | refine R.guardN rfl rfl rfl ?_ | refine R.done ?_ | refine W.seq ?_ | refine W.region ?_ | refine W.draw ?_ | refine W.block ?_ | refine W.condT rfl (by first | with_reducible rfl | assumption) ?_ | refine W.condF rfl (by first | with_reducible rfl | assumption) ?_ | refine W.retAft ?_ | refine W.retBlk ?_ | refine W.retLop ?_ | refine W.exitAft ?_ | refine W.exitLop ?_ | refine W.exitBlk ?_ | refine W.exitBlkNe rfl ?_ | refine W.skipAft ?_ | refine W.skipBlk ?_ | refine R.skip ?_))
    refine W.cond rfl (fun hc2 => ?_) (fun hc2 => ?_)
    · have hc' : c < 26 := by have := of_decide_eq_true hc2; omega
      (repeat (first | refine R.op0 (by first | exact O.svEq rfl rfl | exact O.svNe rfl rfl | exact O.lenSv rfl rfl | exact O.move rfl | exact O.assign rfl | exact O.pickT rfl (by first | with_reducible rfl | assumption) rfl | exact O.pickF rfl (by first | with_reducible rfl | assumption) rfl | exact O.lenL rfl rfl | exact O.lenS rfl rfl | exact O.int rfl rfl (add64 (by omega)) | exact O.int rfl rfl (sub64 (by omega)) | exact O.int rfl rfl (add8 (by omega)) | exact O.cmp rfl rfl rfl | exact O.str rfl rfl rfl | exact O.boolEq rfl rfl rfl | exact O.not rfl) rfl ?_ | refine R.guardT1 rfl rfl (by first | with_reducible rfl | assumption) ?_ | refine R.guardT0 rfl rfl (by first | with_reducible rfl | assumption) ?_ | refine R.guardF1 rfl rfl (by first | with_reducible rfl | assumption) rfl ?_ | refine R.guardF0 rfl rfl (by first | with_reducible rfl | assumption) rfl ?_ | refine R.guardN rfl rfl rfl ?_ | refine R.done ?_ | refine W.seq ?_ | refine W.region ?_ | refine W.draw ?_ | refine W.block ?_ | refine W.condT rfl (by first | with_reducible rfl | assumption) ?_ | refine W.condF rfl (by first | with_reducible rfl | assumption) ?_ | refine W.retAft ?_ | refine W.retBlk ?_ | refine W.retLop ?_ | refine W.exitAft ?_ | refine W.exitLop ?_ | refine W.exitBlk ?_ | refine W.exitBlkNe rfl ?_ | refine W.skipAft ?_ | refine W.skipBlk ?_ | refine R.skip ?_))
      refine R.op1 (O.buildS (xs := [.imm (.int .u8 ((97 + c : Nat) : Int))]) rfl rfl rfl (by decide) rfl rfl (by decide)) rfl ?_
      refine R.op0 (O.convBS (ys := [.imm (.int .u8 ((97 + c : Nat) : Int))]) (bs := [UInt8.ofNat (97 + c)]) rfl rfl rfl rfl rfl ?_ ?_) rfl ?_
      · simp [elems, upd]
      · simp only [bytesOf, Option.map_some]
        congr 3
      refine R.op0 (O.svAdd (a := wordN (a + j)) (b := [UInt8.ofNat (97 + c)]) rfl rfl ?_) rfl ?_
      · have := wordN_len (a + j)
        simp; omega
      rw [← word_kid (a + j) c hc']
      (repeat (first | refine R.op0 (by first | exact O.svEq rfl rfl | exact O.svNe rfl rfl | exact O.lenSv rfl rfl | exact O.move rfl | exact O.assign rfl | exact O.pickT rfl (by first | with_reducible rfl | assumption) rfl | exact O.pickF rfl (by first | with_reducible rfl | assumption) rfl | exact O.lenL rfl rfl | exact O.lenS rfl rfl | exact O.int rfl rfl (add64 (by omega)) | exact O.int rfl rfl (sub64 (by omega)) | exact O.int rfl rfl (add8 (by omega)) | exact O.cmp rfl rfl rfl | exact O.str rfl rfl rfl | exact O.boolEq rfl rfl rfl | exact O.not rfl) rfl ?_ | refine R.guardT1 rfl rfl (by first | with_reducible rfl | assumption) ?_ | refine R.guardT0 rfl rfl (by first | with_reducible rfl | assumption) ?_ | refine R.guardF1 rfl rfl (by first | with_reducible rfl | assumption) rfl ?_ | refine R.guardF0 rfl rfl (by first | with_reducible rfl | assumption) rfl ?_ | refine R.guardN rfl rfl rfl ?_ | refine R.done ?_ | refine W.seq ?_ | refine W.region ?_ | refine W.draw ?_ | refine W.block ?_ | refine W.condT rfl (by first | with_reducible rfl | assumption) ?_ | refine W.condF rfl (by first | with_reducible rfl | assumption) ?_ | refine W.retAft ?_ | refine W.retBlk ?_ | refine W.retLop ?_ | refine W.exitAft ?_ | refine W.exitLop ?_ | refine W.exitBlk ?_ | refine W.exitBlkNe rfl ?_ | refine W.skipAft ?_ | refine W.skipBlk ?_ | refine R.skip ?_))
      refine R.gen (P := fun G nx _ => o2 < nx ∧ n0 ≤ nx ∧ K G ∧ G o2 = .row 9 1 (wrow a m) false ∧ Long n0 nx o2 a (26 * j + c) G u) ⟨by omega, by omega, hc.frame _ _ hK fun o ho => upd_ne _ _ _ _ (by omega), (upd_ne _ _ _ _ (by omega)).trans hR, hL.frame (by omega) fun o _ ho => upd_ne _ _ _ _ (by omega)⟩ ?_
      clear hL hR hK h3 h2
      intro G nx base ⟨h2, h3, hK, hR, hL⟩
      refine R.round rfl rfl rfl ?_
      by_cases hn : 26 * (a + j) + 1 + c = N
      · rw [hn]
        refine (hc.last G nx hK h3).mono fun v G' nx' ⟨hv, hQ⟩ => ?_
        subst hv
        (repeat (first | refine R.op0 (by first | exact O.svEq rfl rfl | exact O.svNe rfl rfl | exact O.lenSv rfl rfl | exact O.move rfl | exact O.assign rfl | exact O.pickT rfl (by first | with_reducible rfl | assumption) rfl | exact O.pickF rfl (by first | with_reducible rfl | assumption) rfl | exact O.lenL rfl rfl | exact O.lenS rfl rfl | exact O.int rfl rfl (add64 (by omega)) | exact O.int rfl rfl (sub64 (by omega)) | exact O.int rfl rfl (add8 (by omega)) | exact O.cmp rfl rfl rfl | exact O.str rfl rfl rfl | exact O.boolEq rfl rfl rfl | exact O.not rfl) rfl ?_ | refine R.guardT1 rfl rfl (by first | with_reducible rfl | assumption) ?_ | refine R.guardT0 rfl rfl (by first | with_reducible rfl | assumption) ?_ | refine R.guardF1 rfl rfl (by first | with_reducible rfl | assumption) rfl ?_ | refine R.guardF0 rfl rfl (by first | with_reducible rfl | assumption) rfl ?_ | refine R.guardN rfl rfl rfl ?_ | refine R.done ?_ | refine W.seq ?_ | refine W.region ?_ | refine W.draw ?_ | refine W.block ?_ | refine W.condT rfl (by first | with_reducible rfl | assumption) ?_ | refine W.condF rfl (by first | with_reducible rfl | assumption) ?_ | refine W.retAft ?_ | refine W.retBlk ?_ | refine W.retLop ?_ | refine W.exitAft ?_ | refine W.exitLop ?_ | refine W.exitBlk ?_ | refine W.exitBlkNe rfl ?_ | refine W.skipAft ?_ | refine W.skipBlk ?_ | refine R.skip ?_))
        refine W.condT rfl rfl ?_
        (repeat (first | refine R.op0 (by first | exact O.svEq rfl rfl | exact O.svNe rfl rfl | exact O.lenSv rfl rfl | exact O.move rfl | exact O.assign rfl | exact O.pickT rfl (by first | with_reducible rfl | assumption) rfl | exact O.pickF rfl (by first | with_reducible rfl | assumption) rfl | exact O.lenL rfl rfl | exact O.lenS rfl rfl | exact O.int rfl rfl (add64 (by omega)) | exact O.int rfl rfl (sub64 (by omega)) | exact O.int rfl rfl (add8 (by omega)) | exact O.cmp rfl rfl rfl | exact O.str rfl rfl rfl | exact O.boolEq rfl rfl rfl | exact O.not rfl) rfl ?_ | refine R.guardT1 rfl rfl (by first | with_reducible rfl | assumption) ?_ | refine R.guardT0 rfl rfl (by first | with_reducible rfl | assumption) ?_ | refine R.guardF1 rfl rfl (by first | with_reducible rfl | assumption) rfl ?_ | refine R.guardF0 rfl rfl (by first | with_reducible rfl | assumption) rfl ?_ | refine R.guardN rfl rfl rfl ?_ | refine R.done ?_ | refine W.seq ?_ | refine W.region ?_ | refine W.draw ?_ | refine W.block ?_ | refine W.condT rfl (by first | with_reducible rfl | assumption) ?_ | refine W.condF rfl (by first | with_reducible rfl | assumption) ?_ | refine W.retAft ?_ | refine W.retBlk ?_ | refine W.retLop ?_ | refine W.exitAft ?_ | refine W.exitLop ?_ | refine W.exitBlk ?_ | refine W.exitBlkNe rfl ?_ | refine W.skipAft ?_ | refine W.skipBlk ?_ | refine R.skip ?_))
        exact W.retFin rfl rfl hQ
      · refine (hc.step _ G nx (by omega) (by omega) hK h3).mono fun v G' nx' ⟨hv, hK', hn', hG'⟩ => ?_
        subst hv
        have hR' : G' o2 = .row 9 1 (wrow a m) false := (hG' o2 h1).trans hR
        have hL' : Long n0 nx' o2 a (26 * j + c) G' u := hL.frame hn' fun o ho _ => hG' o ho
        have h2' : o2 < nx' := by omega
        have h3' : n0 ≤ nx' := by omega
        clear hL hR hK h3 h2 hn' hG'
        (repeat (first | refine R.op0 (by first | exact O.svEq rfl rfl | exact O.svNe rfl rfl | exact O.lenSv rfl rfl | exact O.move rfl | exact O.assign rfl | exact O.pickT rfl (by first | with_reducible rfl | assumption) rfl | exact O.pickF rfl (by first | with_reducible rfl | assumption) rfl | exact O.lenL rfl rfl | exact O.lenS rfl rfl | exact O.int rfl rfl (add64 (by omega)) | exact O.int rfl rfl (sub64 (by omega)) | exact O.int rfl rfl (add8 (by omega)) | exact O.cmp rfl rfl rfl | exact O.str rfl rfl rfl | exact O.boolEq rfl rfl rfl | exact O.not rfl) rfl ?_ | refine R.guardT1 rfl rfl (by first | with_reducible rfl | assumption) ?_ | refine R.guardT0 rfl rfl (by first | with_reducible rfl | assumption) ?_ | refine R.guardF1 rfl rfl (by first | with_reducible rfl | assumption) rfl ?_ | refine R.guardF0 rfl rfl (by first | with_reducible rfl | assumption) rfl ?_ | refine R.guardN rfl rfl rfl ?_ | refine R.done ?_ | refine W.seq ?_ | refine W.region ?_ | refine W.draw ?_ | refine W.block ?_ | refine W.condT rfl (by first | with_reducible rfl | assumption) ?_ | refine W.condF rfl (by first | with_reducible rfl | assumption) ?_ | refine W.retAft ?_ | refine W.retBlk ?_ | refine W.retLop ?_ | refine W.exitAft ?_ | refine W.exitLop ?_ | refine W.exitBlk ?_ | refine W.exitBlkNe rfl ?_ | refine W.skipAft ?_ | refine W.skipBlk ?_ | refine R.skip ?_))
        refine W.condF rfl rfl ?_
        (repeat (first | refine R.op0 (by first | exact O.svEq rfl rfl | exact O.svNe rfl rfl | exact O.lenSv rfl rfl | exact O.move rfl | exact O.assign rfl | exact O.pickT rfl (by first | with_reducible rfl | assumption) rfl | exact O.pickF rfl (by first | with_reducible rfl | assumption) rfl | exact O.lenL rfl rfl | exact O.lenS rfl rfl | exact O.int rfl rfl (add64 (by omega)) | exact O.int rfl rfl (sub64 (by omega)) | exact O.int rfl rfl (add8 (by omega)) | exact O.cmp rfl rfl rfl | exact O.str rfl rfl rfl | exact O.boolEq rfl rfl rfl | exact O.not rfl) rfl ?_ | refine R.guardT1 rfl rfl (by first | with_reducible rfl | assumption) ?_ | refine R.guardT0 rfl rfl (by first | with_reducible rfl | assumption) ?_ | refine R.guardF1 rfl rfl (by first | with_reducible rfl | assumption) rfl ?_ | refine R.guardF0 rfl rfl (by first | with_reducible rfl | assumption) rfl ?_ | refine R.guardN rfl rfl rfl ?_ | refine R.done ?_ | refine W.seq ?_ | refine W.region ?_ | refine W.draw ?_ | refine W.block ?_ | refine W.condT rfl (by first | with_reducible rfl | assumption) ?_ | refine W.condF rfl (by first | with_reducible rfl | assumption) ?_ | refine W.retAft ?_ | refine W.retBlk ?_ | refine W.retLop ?_ | refine W.exitAft ?_ | refine W.exitLop ?_ | refine W.exitBlk ?_ | refine W.exitBlkNe rfl ?_ | refine W.skipAft ?_ | refine W.skipBlk ?_ | refine R.skip ?_))
        refine R.op1 (O.buildS (xs := [.imm (sv (wordN (26 * (a + j) + 1 + c)))]) rfl rfl rfl (by decide) rfl rfl (by decide)) rfl ?_
        rcases hL' with ⟨hz, hu⟩ | ⟨o, ho1, ho2, ho3, ho4, ho5, ho6⟩
        · subst hu
          refine R.op1 (O.appNil (ys := [.imm (sv (wordN (26 * (a + j) + 1 + c)))]) rfl rfl rfl rfl (by simp [elems, upd]) (by decide) (by decide) rfl rfl (by simp [most])) rfl ?_
          refine R.gen (P := fun G nx _ => o2 < nx ∧ n0 ≤ nx ∧ K G ∧ G o2 = .row 9 1 (wrow a m) false ∧ Long n0 nx o2 a (26 * j + (c + 1)) G (.row (nx' + (0 + 1 + 1 + 1)) [AV.imm (sv (wordN (26 * (a + j) + 1 + c)))].length)) ⟨by omega, by omega, ?_, ?_, ?_⟩ ?_
          · exact hc.frame _ _ hK' fun o ho => by rw [upd_ne _ _ _ _ (by omega), upd_ne _ _ _ _ (by omega)]
          · rw [upd_ne _ _ _ _ (by omega), upd_ne _ _ _ _ (by omega)]; exact hR'
          · refine .inr ⟨nx' + (0 + 1 + 1 + 1), by omega, ?_, ?_, ?_, ?_, by omega⟩
            · simp only [List.length_cons, List.length_nil]; omega
            · omega
            · have : 26 * j + (c + 1) = 1 := by omega
              rw [this]; rfl
            · rw [upd_same]
              have : 26 * j + (c + 1) = 1 := by omega
              rw [this]
              have : 26 * (a + j) + 1 + c = 26 * a + 1 := by omega
              rw [this]
              rfl
          clear hR' hK' h2' h3'
          intro G nx base ⟨h2, h3, hK, hR, hL⟩
          (repeat (first | refine R.op0 (by first | exact O.svEq rfl rfl | exact O.svNe rfl rfl | exact O.lenSv rfl rfl | exact O.move rfl | exact O.assign rfl | exact O.pickT rfl (by first | with_reducible rfl | assumption) rfl | exact O.pickF rfl (by first | with_reducible rfl | assumption) rfl | exact O.lenL rfl rfl | exact O.lenS rfl rfl | exact O.int rfl rfl (add64 (by omega)) | exact O.int rfl rfl (sub64 (by omega)) | exact O.int rfl rfl (add8 (by omega)) | exact O.cmp rfl rfl rfl | exact O.str rfl rfl rfl | exact O.boolEq rfl rfl rfl | exact O.not rfl) rfl ?_ | refine R.guardT1 rfl rfl (by first | with_reducible rfl | assumption) ?_ | refine R.guardT0 rfl rfl (by first | with_reducible rfl | assumption) ?_ | refine R.guardF1 rfl rfl (by first | with_reducible rfl | assumption) rfl ?_ | refine R.guardF0 rfl rfl (by first | with_reducible rfl | assumption) rfl ?_ | refine R.guardN rfl rfl rfl ?_ | refine R.done ?_ | refine W.seq ?_ | refine W.region ?_ | refine W.draw ?_ | refine W.block ?_ | refine W.condT rfl (by first | with_reducible rfl | assumption) ?_ | refine W.condF rfl (by first | with_reducible rfl | assumption) ?_ | refine W.retAft ?_ | refine W.retBlk ?_ | refine W.retLop ?_ | refine W.exitAft ?_ | refine W.exitLop ?_ | refine W.exitBlk ?_ | refine W.exitBlkNe rfl ?_ | refine W.skipAft ?_ | refine W.skipBlk ?_ | refine R.skip ?_))
          refine W.skipLop (c + 1, _) ?_ ?_ ⟨by omega, by omega, hK, hR, by show c + 1 ≤ 26; omega, by show 26 * (a + j) + (c + 1) < N; omega, hL.frame (by omega) fun _ _ _ => rfl⟩
          · show 26 - (c + 1) < 26 - c; omega
          · exact .cons rfl (.cons rfl (.cons rfl (.cons rfl (.cons rfl (.cons rfl (.cons rfl (.nil _)))))))
        · subst ho4
          refine R.op1 (O.appRow (xs := wrow (26 * a + 1) (26 * j + c)) (ys := [.imm (sv (wordN (26 * (a + j) + 1 + c)))]) rfl rfl rfl ((upd_ne _ _ _ _ (by omega)).trans ho5) (wrow_len _ _) rfl (by simp [elems, upd]) (by decide) (by decide) rfl rfl (by simp [most]; omega)) rfl ?_
          refine R.gen (P := fun G nx _ => o2 < nx ∧ n0 ≤ nx ∧ K G ∧ G o2 = .row 9 1 (wrow a m) false ∧ Long n0 nx o2 a (26 * j + (c + 1)) G (.row o (wrow (26 * a + 1) (26 * j + c) ++ [AV.imm (sv (wordN (26 * (a + j) + 1 + c)))]).length)) ⟨by omega, by omega, ?_, ?_, ?_⟩ ?_
          · exact hc.frame _ _ hK' fun o ho => by rw [upd_ne _ _ _ _ (by omega), upd_ne _ _ _ _ (by omega)]
          · rw [upd_ne _ _ _ _ (by omega), upd_ne _ _ _ _ (by omega)]; exact hR'
          · refine .inr ⟨o, ho1, by omega, ho3, ?_, ?_, by omega⟩
            · rw [List.length_append, wrow_len]; rfl
            · rw [upd_same]
              have : 26 * (a + j) + 1 + c = 26 * a + 1 + (26 * j + c) := by omega
              rw [this, wrow_succ]
              rfl
          clear hR' hK' h2' h3'
          intro G nx base ⟨h2, h3, hK, hR, hL⟩
          (repeat (first | refine R.op0 (by first | exact O.svEq rfl rfl | exact O.svNe rfl rfl | exact O.lenSv rfl rfl | exact O.move rfl | exact O.assign rfl | exact O.pickT rfl (by first | with_reducible rfl | assumption) rfl | exact O.pickF rfl (by first | with_reducible rfl | assumption) rfl | exact O.lenL rfl rfl | exact O.lenS rfl rfl | exact O.int rfl rfl (add64 (by omega)) | exact O.int rfl rfl (sub64 (by omega)) | exact O.int rfl rfl (add8 (by omega)) | exact O.cmp rfl rfl rfl | exact O.str rfl rfl rfl | exact O.boolEq rfl rfl rfl | exact O.not rfl) rfl ?_ | refine R.guardT1 rfl rfl (by first | with_reducible rfl | assumption) ?_ | refine R.guardT0 rfl rfl (by first | with_reducible rfl | assumption) ?_ | refine R.guardF1 rfl rfl (by first | with_reducible rfl | assumption) rfl ?_ | refine R.guardF0 rfl rfl (by first | with_reducible rfl | assumption) rfl ?_ | refine R.guardN rfl rfl rfl ?_ | refine R.done ?_ | refine W.seq ?_ | refine W.region ?_ | refine W.draw ?_ | refine W.block ?_ | refine W.condT rfl (by first | with_reducible rfl | assumption) ?_ | refine W.condF rfl (by first | with_reducible rfl | assumption) ?_ | refine W.retAft ?_ | refine W.retBlk ?_ | refine W.retLop ?_ | refine W.exitAft ?_ | refine W.exitLop ?_ | refine W.exitBlk ?_ | refine W.exitBlkNe rfl ?_ | refine W.skipAft ?_ | refine W.skipBlk ?_ | refine R.skip ?_))
          refine W.skipLop (c + 1, _) ?_ ?_ ⟨by omega, by omega, hK, hR, by show c + 1 ≤ 26; omega, by show 26 * (a + j) + (c + 1) < N; omega, hL.frame (by omega) fun _ _ _ => rfl⟩
          · show 26 - (c + 1) < 26 - c; omega
          · exact .cons rfl (.cons rfl (.cons rfl (.cons rfl (.cons rfl (.cons rfl (.cons rfl (.nil _)))))))
    · have hc' : c = 26 := by have := of_decide_eq_false hc2; omega
      subst hc'
      (repeat (first | refine R.op0 (by first | exact O.svEq rfl rfl | exact O.svNe rfl rfl | exact O.lenSv rfl rfl | exact O.move rfl | exact O.assign rfl | exact O.pickT rfl (by first | with_reducible rfl | assumption) rfl | exact O.pickF rfl (by first | with_reducible rfl | assumption) rfl | exact O.lenL rfl rfl | exact O.lenS rfl rfl | exact O.int rfl rfl (add64 (by omega)) | exact O.int rfl rfl (sub64 (by omega)) | exact O.int rfl rfl (add8 (by omega)) | exact O.cmp rfl rfl rfl | exact O.str rfl rfl rfl | exact O.boolEq rfl rfl rfl | exact O.not rfl) rfl ?_ | refine R.guardT1 rfl rfl (by first | with_reducible rfl | assumption) ?_ | refine R.guardT0 rfl rfl (by first | with_reducible rfl | assumption) ?_ | refine R.guardF1 rfl rfl (by first | with_reducible rfl | assumption) rfl ?_ | refine R.guardF0 rfl rfl (by first | with_reducible rfl | assumption) rfl ?_ | refine R.guardN rfl rfl rfl ?_ | refine R.done ?_ | refine W.seq ?_ | refine W.region ?_ | refine W.draw ?_ | refine W.block ?_ | refine W.condT rfl (by first | with_reducible rfl | assumption) ?_ | refine W.condF rfl (by first | with_reducible rfl | assumption) ?_ | refine W.retAft ?_ | refine W.retBlk ?_ | refine W.retLop ?_ | refine W.exitAft ?_ | refine W.exitLop ?_ | refine W.exitBlk ?_ | refine W.exitBlkNe rfl ?_ | refine W.skipAft ?_ | refine W.skipBlk ?_ | refine R.skip ?_))
      refine W.skipLop (j + 1, u) ?_ ?_ ⟨by omega, by omega, hK, hR, hlt, by show 26 * (a + (j + 1)) < N; omega, ?_⟩
      · show m - (j + 1) < m - j; omega
      · exact .cons rfl (.cons rfl (.cons rfl (.cons rfl (.cons rfl (.nil _)))))
      · exact hL.frame (by omega) fun _ _ _ => rfl
  · have hge : j = m := by have := of_decide_eq_false hc1; omega
    subst hge
    (repeat (first | refine R.op0 (by first | exact O.svEq rfl rfl | exact O.svNe rfl rfl | exact O.lenSv rfl rfl | exact O.move rfl | exact O.assign rfl | exact O.pickT rfl (by first | with_reducible rfl | assumption) rfl | exact O.pickF rfl (by first | with_reducible rfl | assumption) rfl | exact O.lenL rfl rfl | exact O.lenS rfl rfl | exact O.int rfl rfl (add64 (by omega)) | exact O.int rfl rfl (sub64 (by omega)) | exact O.int rfl rfl (add8 (by omega)) | exact O.cmp rfl rfl rfl | exact O.str rfl rfl rfl | exact O.boolEq rfl rfl rfl | exact O.not rfl) rfl ?_ | refine R.guardT1 rfl rfl (by first | with_reducible rfl | assumption) ?_ | refine R.guardT0 rfl rfl (by first | with_reducible rfl | assumption) ?_ | refine R.guardF1 rfl rfl (by first | with_reducible rfl | assumption) rfl ?_ | refine R.guardF0 rfl rfl (by first | with_reducible rfl | assumption) rfl ?_ | refine R.guardN rfl rfl rfl ?_ | refine R.done ?_ | refine W.seq ?_ | refine W.region ?_ | refine W.draw ?_ | refine W.block ?_ | refine W.condT rfl (by first | with_reducible rfl | assumption) ?_ | refine W.condF rfl (by first | with_reducible rfl | assumption) ?_ | refine W.retAft ?_ | refine W.retBlk ?_ | refine W.retLop ?_ | refine W.exitAft ?_ | refine W.exitLop ?_ | refine W.exitBlk ?_ | refine W.exitBlkNe rfl ?_ | refine W.skipAft ?_ | refine W.skipBlk ?_ | refine R.skip ?_))
    rcases hL with ⟨hz, hu⟩ | ⟨o, ho1, ho2, ho3, ho4, ho5, ho6⟩
    · omega
    · subst ho4
      refine W.skipLop (o, 26 * a + 1, 26 * j) ?_ ?_ ⟨ho1, by show o < _; omega, by omega, hK, ho5, by show 26 * a + 1 + 26 * j = 26 * (26 * a + 1) + 1; omega, by show 26 * (26 * a + 1) < N; omega⟩
      · show N - (26 * a + 1) < N - a; omega
      · exact .cons rfl (.cons rfl (.nil _))

def rng1 : Code → Option (Code × Code)
  | .seq a b => match rng1 a with
    | some x => some x
    | none => rng1 b
  | .block _ b | .loop b => rng1 b
  | .rangeFunc _ _ a b => some (a, b)
  | _ => none
noncomputable def f12R : Code × Code := match Go.Proofs.Try.f12.body with
  | some b => match rng1 b with
    | some x => x
    | none => (.skip, .skip)
  | none => (.skip, .skip)

theorem ret12 (l0 : List Str) (hl : l0.length ≤ 9223372036854775807) (N : Nat) (h : First l0 N) : Ret CC 12 [.lst (l0.map sv)] (sv (wordN N)) := by
  refine Ret.of (fn := Go.Proofs.Try.f12) (by kernel_rfl) rfl rfl ?_
  refine W.seq (W.region ?_)
  refine R.op1 (O.box1 rfl rfl rfl rfl) rfl ?_
  refine R.op1 (O.alloc rfl rfl) rfl ?_
  refine R.done ?_
  refine W.seq (W.block ?_)
  refine W.range rfl rfl rfl rfl fun t ht => ?_
  refine (cal41 (q := 2) (n0 := 4) (N := N) (K := fun G => G 0 = .box [.imm (.lst (l0.map sv))] false ∧ G 1 = .box [.imm (.str ⟨#[]⟩)] false ∧ ∃ t e, G 2 = .lp t Go.Proofs.Try.f12.ntmps [4] f12R.1 f12R.2 12 0 e ∧ Agree t [(1, .ptr 0 0), (2, .ptr 1 0)])
    (Q := fun G => G 1 = .box [.imm (sv (wordN N))] false ∧ ∃ t, G 2 = .lp t Go.Proofs.Try.f12.ntmps [4] f12R.1 f12R.2 12 2 (some .ret)) ⟨?_, ?_, ?_⟩ h.pos h.small ⟨rfl, rfl, t, none, rfl, ?_⟩).mono ?_
  · intro G G' ⟨h0, h1, t, e, h2, ha⟩ hf
    exact ⟨(hf 0 (by omega)).trans h0, (hf 1 (by omega)).trans h1, t, e, (hf 2 (by omega)).trans h2, ha⟩
  · intro n G nx hn1 hnN ⟨hb0, hb1, t, e, hl2, ha⟩ hnx
    have hw := wordN_len n
    have hs := h.small
    have hbad := h.least n hn1 hnN
    refine Rnd.of hl2 ha rfl rfl ?_
    refine W.region ?_
    refine R.op0 (O.assign rfl) rfl ?_
    refine R.doneAst hl2 ?_
    refine W.block (W.seq (W.region ?_))
    refine R.op0 (O.move rfl) rfl ?_
    refine R.op0 (O.call rfl rfl (ret10 (wordN n) (by omega))) rfl ?_
    (repeat (first | refine R.op0 (by first | exact O.svEq rfl rfl | exact O.svNe rfl rfl | exact O.lenSv rfl rfl | exact O.move rfl | exact O.assign rfl | exact O.pickT rfl (by first | with_reducible rfl | assumption) rfl | exact O.pickF rfl (by first | with_reducible rfl | assumption) rfl | exact O.lenL rfl rfl | exact O.lenS rfl rfl | exact O.int rfl rfl (add64 (by omega)) | exact O.int rfl rfl (sub64 (by omega)) | exact O.int rfl rfl (add8 (by omega)) | exact O.cmp rfl rfl rfl | exact O.str rfl rfl rfl | exact O.boolEq rfl rfl rfl | exact O.not rfl) rfl ?_ | refine R.guardT1 rfl rfl (by first | with_reducible rfl | assumption) ?_ | refine R.guardT0 rfl rfl (by first | with_reducible rfl | assumption) ?_ | refine R.guardF1 rfl rfl (by first | with_reducible rfl | assumption) rfl ?_ | refine R.guardF0 rfl rfl (by first | with_reducible rfl | assumption) rfl ?_ | refine R.guardN rfl rfl rfl ?_ | refine R.done ?_ | refine W.seq ?_ | refine W.region ?_ | refine W.draw ?_ | refine W.block ?_ | refine W.condT rfl (by first | with_reducible rfl | assumption) ?_ | refine W.condF rfl (by first | with_reducible rfl | assumption) ?_ | refine W.retAft ?_ | refine W.retBlk ?_ | refine W.retLop ?_ | refine W.exitAft ?_ | refine W.exitLop ?_ | refine W.exitBlk ?_ | refine W.exitBlkNe rfl ?_ | refine W.skipAft ?_ | refine W.skipBlk ?_ | refine R.skip ?_))
    have fin : ∀ {l : Env} {nx' : Nat}, nx ≤ nx' → W CC 12 Go.Proofs.Try.f12.ntmps .skip l (upd G 2 (.lp t Go.Proofs.Try.f12.ntmps [4] f12R.1 f12R.2 12 1 e)) nx' [] .rnd
        (frd 2 fun v G' nx' => v = .imm (.bool true) ∧ (G' 0 = .box [.imm (.lst (l0.map sv))] false ∧ G' 1 = .box [.imm (.str ⟨#[]⟩)] false ∧ ∃ t e, G' 2 = .lp t Go.Proofs.Try.f12.ntmps [4] f12R.1 f12R.2 12 0 e ∧ Agree t [(1, .ptr 0 0), (2, .ptr 1 0)]) ∧ nx ≤ nx' ∧ ∀ o, 4 ≤ o → G' o = G o) := by
      intro l nx' hx
      refine W.skipFrd (upd_same _ _ _) ⟨rfl, ⟨?_, ?_, t, none, upd_same _ _ _, ha⟩, hx, fun o ho => ?_⟩
      · rw [upd_ne _ _ _ _ (by omega), upd_ne _ _ _ _ (by omega)]; exact hb0
      · rw [upd_ne _ _ _ _ (by omega), upd_ne _ _ _ _ (by omega)]; exact hb1
      · rw [upd_ne _ _ _ _ (by omega), upd_ne _ _ _ _ (by omega)]
    refine R.guardC1 rfl rfl rfl (fun h1 => ?_) (fun h1 => ?_)
    · refine R.op0 (O.loadB rfl ((upd_ne _ _ _ _ (by omega)).trans hb0) rfl rfl) rfl ?_
      (repeat (first | refine R.op0 (by first | exact O.svEq rfl rfl | exact O.svNe rfl rfl | exact O.lenSv rfl rfl | exact O.move rfl | exact O.assign rfl | exact O.pickT rfl (by first | with_reducible rfl | assumption) rfl | exact O.pickF rfl (by first | with_reducible rfl | assumption) rfl | exact O.lenL rfl rfl | exact O.lenS rfl rfl | exact O.int rfl rfl (add64 (by omega)) | exact O.int rfl rfl (sub64 (by omega)) | exact O.int rfl rfl (add8 (by omega)) | exact O.cmp rfl rfl rfl | exact O.str rfl rfl rfl | exact O.boolEq rfl rfl rfl | exact O.not rfl) rfl ?_ | refine R.guardT1 rfl rfl (by first | with_reducible rfl | assumption) ?_ | refine R.guardT0 rfl rfl (by first | with_reducible rfl | assumption) ?_ | refine R.guardF1 rfl rfl (by first | with_reducible rfl | assumption) rfl ?_ | refine R.guardF0 rfl rfl (by first | with_reducible rfl | assumption) rfl ?_ | refine R.guardN rfl rfl rfl ?_ | refine R.done ?_ | refine W.seq ?_ | refine W.region ?_ | refine W.draw ?_ | refine W.block ?_ | refine W.condT rfl (by first | with_reducible rfl | assumption) ?_ | refine W.condF rfl (by first | with_reducible rfl | assumption) ?_ | refine W.retAft ?_ | refine W.retBlk ?_ | refine W.retLop ?_ | refine W.exitAft ?_ | refine W.exitLop ?_ | refine W.exitBlk ?_ | refine W.exitBlkNe rfl ?_ | refine W.skipAft ?_ | refine W.skipBlk ?_ | refine R.skip ?_))
      refine R.op0 (O.call rfl rfl (ret42 l0 (wordN n) hl)) rfl ?_
      (repeat (first | refine R.op0 (by first | exact O.svEq rfl rfl | exact O.svNe rfl rfl | exact O.lenSv rfl rfl | exact O.move rfl | exact O.assign rfl | exact O.pickT rfl (by first | with_reducible rfl | assumption) rfl | exact O.pickF rfl (by first | with_reducible rfl | assumption) rfl | exact O.lenL rfl rfl | exact O.lenS rfl rfl | exact O.int rfl rfl (add64 (by omega)) | exact O.int rfl rfl (sub64 (by omega)) | exact O.int rfl rfl (add8 (by omega)) | exact O.cmp rfl rfl rfl | exact O.str rfl rfl rfl | exact O.boolEq rfl rfl rfl | exact O.not rfl) rfl ?_ | refine R.guardT1 rfl rfl (by first | with_reducible rfl | assumption) ?_ | refine R.guardT0 rfl rfl (by first | with_reducible rfl | assumption) ?_ | refine R.guardF1 rfl rfl (by first | with_reducible rfl | assumption) rfl ?_ | refine R.guardF0 rfl rfl (by first | with_reducible rfl | assumption) rfl ?_ | refine R.guardN rfl rfl rfl ?_ | refine R.done ?_ | refine W.seq ?_ | refine W.region ?_ | refine W.draw ?_ | refine W.block ?_ | refine W.condT rfl (by first | with_reducible rfl | assumption) ?_ | refine W.condF rfl (by first | with_reducible rfl | assumption) ?_ | refine W.retAft ?_ | refine W.retBlk ?_ | refine W.retLop ?_ | refine W.exitAft ?_ | refine W.exitLop ?_ | refine W.exitBlk ?_ | refine W.exitBlkNe rfl ?_ | refine W.skipAft ?_ | refine W.skipBlk ?_ | refine R.skip ?_))
      refine W.cond rfl (fun h2 => ?_) (fun h2 => ?_)
      · rw [good, h1, h2] at hbad; cases hbad
      · (repeat (first | refine R.op0 (by first | exact O.svEq rfl rfl | exact O.svNe rfl rfl | exact O.lenSv rfl rfl | exact O.move rfl | exact O.assign rfl | exact O.pickT rfl (by first | with_reducible rfl | assumption) rfl | exact O.pickF rfl (by first | with_reducible rfl | assumption) rfl | exact O.lenL rfl rfl | exact O.lenS rfl rfl | exact O.int rfl rfl (add64 (by omega)) | exact O.int rfl rfl (sub64 (by omega)) | exact O.int rfl rfl (add8 (by omega)) | exact O.cmp rfl rfl rfl | exact O.str rfl rfl rfl | exact O.boolEq rfl rfl rfl | exact O.not rfl) rfl ?_ | refine R.guardT1 rfl rfl (by first | with_reducible rfl | assumption) ?_ | refine R.guardT0 rfl rfl (by first | with_reducible rfl | assumption) ?_ | refine R.guardF1 rfl rfl (by first | with_reducible rfl | assumption) rfl ?_ | refine R.guardF0 rfl rfl (by first | with_reducible rfl | assumption) rfl ?_ | refine R.guardN rfl rfl rfl ?_ | refine R.done ?_ | refine W.seq ?_ | refine W.region ?_ | refine W.draw ?_ | refine W.block ?_ | refine W.condT rfl (by first | with_reducible rfl | assumption) ?_ | refine W.condF rfl (by first | with_reducible rfl | assumption) ?_ | refine W.retAft ?_ | refine W.retBlk ?_ | refine W.retLop ?_ | refine W.exitAft ?_ | refine W.exitLop ?_ | refine W.exitBlk ?_ | refine W.exitBlkNe rfl ?_ | refine W.skipAft ?_ | refine W.skipBlk ?_ | refine R.skip ?_))
        exact fin (by omega)
    · (repeat (first | refine R.op0 (by first | exact O.svEq rfl rfl | exact O.svNe rfl rfl | exact O.lenSv rfl rfl | exact O.move rfl | exact O.assign rfl | exact O.pickT rfl (by first | with_reducible rfl | assumption) rfl | exact O.pickF rfl (by first | with_reducible rfl | assumption) rfl | exact O.lenL rfl rfl | exact O.lenS rfl rfl | exact O.int rfl rfl (add64 (by omega)) | exact O.int rfl rfl (sub64 (by omega)) | exact O.int rfl rfl (add8 (by omega)) | exact O.cmp rfl rfl rfl | exact O.str rfl rfl rfl | exact O.boolEq rfl rfl rfl | exact O.not rfl) rfl ?_ | refine R.guardT1 rfl rfl (by first | with_reducible rfl | assumption) ?_ | refine R.guardT0 rfl rfl (by first | with_reducible rfl | assumption) ?_ | refine R.guardF1 rfl rfl (by first | with_reducible rfl | assumption) rfl ?_ | refine R.guardF0 rfl rfl (by first | with_reducible rfl | assumption) rfl ?_ | refine R.guardN rfl rfl rfl ?_ | refine R.done ?_ | refine W.seq ?_ | refine W.region ?_ | refine W.draw ?_ | refine W.block ?_ | refine W.condT rfl (by first | with_reducible rfl | assumption) ?_ | refine W.condF rfl (by first | with_reducible rfl | assumption) ?_ | refine W.retAft ?_ | refine W.retBlk ?_ | refine W.retLop ?_ | refine W.exitAft ?_ | refine W.exitLop ?_ | refine W.exitBlk ?_ | refine W.exitBlkNe rfl ?_ | refine W.skipAft ?_ | refine W.skipBlk ?_ | refine R.skip ?_))
      exact fin (by omega)
  · intro G nx ⟨hb0, hb1, t, e, hl2, ha⟩ hnx
    have hw := wordN_len N
    have hs := h.small
    have hgood := h.good
    rw [good, Bool.and_eq_true] at hgood
    refine Rnd.of hl2 ha rfl rfl ?_
    refine W.region ?_
    refine R.op0 (O.assign rfl) rfl ?_
    refine R.doneAst hl2 ?_
    refine W.block (W.seq (W.region ?_))
    refine R.op0 (O.move rfl) rfl ?_
    refine R.op0 (O.call rfl rfl (ret10 (wordN N) (by omega))) rfl ?_
    have h1 := hgood.1
    have h2 := hgood.2
    (repeat (first | refine R.op0 (by first | exact O.svEq rfl rfl | exact O.svNe rfl rfl | exact O.lenSv rfl rfl | exact O.move rfl | exact O.assign rfl | exact O.pickT rfl (by first | with_reducible rfl | assumption) rfl | exact O.pickF rfl (by first | with_reducible rfl | assumption) rfl | exact O.lenL rfl rfl | exact O.lenS rfl rfl | exact O.int rfl rfl (add64 (by omega)) | exact O.int rfl rfl (sub64 (by omega)) | exact O.int rfl rfl (add8 (by omega)) | exact O.cmp rfl rfl rfl | exact O.str rfl rfl rfl | exact O.boolEq rfl rfl rfl | exact O.not rfl) rfl ?_ | refine R.guardT1 rfl rfl (by first | with_reducible rfl | assumption) ?_ | refine R.guardT0 rfl rfl (by first | with_reducible rfl | assumption) ?_ | refine R.guardF1 rfl rfl (by first | with_reducible rfl | assumption) rfl ?_ | refine R.guardF0 rfl rfl (by first | with_reducible rfl | assumption) rfl ?_ | refine R.guardN rfl rfl rfl ?_ | refine R.done ?_ | refine W.seq ?_ | refine W.region ?_ | refine W.draw ?_ | refine W.block ?_ | refine W.condT rfl (by first | with_reducible rfl | assumption) ?_ | refine W.condF rfl (by first | with_reducible rfl | assumption) ?_ | refine W.retAft ?_ | refine W.retBlk ?_ | refine W.retLop ?_ | refine W.exitAft ?_ | refine W.exitLop ?_ | refine W.exitBlk ?_ | refine W.exitBlkNe rfl ?_ | refine W.skipAft ?_ | refine W.skipBlk ?_ | refine R.skip ?_))
    refine R.op0 (O.loadB rfl ((upd_ne _ _ _ _ (by omega)).trans hb0) rfl rfl) rfl ?_
    (repeat (first | refine R.op0 (by first | exact O.svEq rfl rfl | exact O.svNe rfl rfl | exact O.lenSv rfl rfl | exact O.move rfl | exact O.assign rfl | exact O.pickT rfl (by first | with_reducible rfl | assumption) rfl | exact O.pickF rfl (by first | with_reducible rfl | assumption) rfl | exact O.lenL rfl rfl | exact O.lenS rfl rfl | exact O.int rfl rfl (add64 (by omega)) | exact O.int rfl rfl (sub64 (by omega)) | exact O.int rfl rfl (add8 (by omega)) | exact O.cmp rfl rfl rfl | exact O.str rfl rfl rfl | exact O.boolEq rfl rfl rfl | exact O.not rfl) rfl ?_ | refine R.guardT1 rfl rfl (by first | with_reducible rfl | assumption) ?_ | refine R.guardT0 rfl rfl (by first | with_reducible rfl | assumption) ?_ | refine R.guardF1 rfl rfl (by first | with_reducible rfl | assumption) rfl ?_ | refine R.guardF0 rfl rfl (by first | with_reducible rfl | assumption) rfl ?_ | refine R.guardN rfl rfl rfl ?_ | refine R.done ?_ | refine W.seq ?_ | refine W.region ?_ | refine W.draw ?_ | refine W.block ?_ | refine W.condT rfl (by first | with_reducible rfl | assumption) ?_ | refine W.condF rfl (by first | with_reducible rfl | assumption) ?_ | refine W.retAft ?_ | refine W.retBlk ?_ | refine W.retLop ?_ | refine W.exitAft ?_ | refine W.exitLop ?_ | refine W.exitBlk ?_ | refine W.exitBlkNe rfl ?_ | refine W.skipAft ?_ | refine W.skipBlk ?_ | refine R.skip ?_))
    refine R.op0 (O.call rfl rfl (ret42 l0 (wordN N) hl)) rfl ?_
    (repeat (first | refine R.op0 (by first | exact O.svEq rfl rfl | exact O.svNe rfl rfl | exact O.lenSv rfl rfl | exact O.move rfl | exact O.assign rfl | exact O.pickT rfl (by first | with_reducible rfl | assumption) rfl | exact O.pickF rfl (by first | with_reducible rfl | assumption) rfl | exact O.lenL rfl rfl | exact O.lenS rfl rfl | exact O.int rfl rfl (add64 (by omega)) | exact O.int rfl rfl (sub64 (by omega)) | exact O.int rfl rfl (add8 (by omega)) | exact O.cmp rfl rfl rfl | exact O.str rfl rfl rfl | exact O.boolEq rfl rfl rfl | exact O.not rfl) rfl ?_ | refine R.guardT1 rfl rfl (by first | with_reducible rfl | assumption) ?_ | refine R.guardT0 rfl rfl (by first | with_reducible rfl | assumption) ?_ | refine R.guardF1 rfl rfl (by first | with_reducible rfl | assumption) rfl ?_ | refine R.guardF0 rfl rfl (by first | with_reducible rfl | assumption) rfl ?_ | refine R.guardN rfl rfl rfl ?_ | refine R.done ?_ | refine W.seq ?_ | refine W.region ?_ | refine W.draw ?_ | refine W.block ?_ | refine W.condT rfl (by first | with_reducible rfl | assumption) ?_ | refine W.condF rfl (by first | with_reducible rfl | assumption) ?_ | refine W.retAft ?_ | refine W.retBlk ?_ | refine W.retLop ?_ | refine W.exitAft ?_ | refine W.exitLop ?_ | refine W.exitBlk ?_ | refine W.exitBlkNe rfl ?_ | refine W.skipAft ?_ | refine W.skipBlk ?_ | refine R.skip ?_))
    refine R.opN1 (O.storeB rfl rfl ((upd_ne _ _ _ _ (by omega)).trans hb1) rfl rfl rfl) ?_
    (repeat (first | refine R.op0 (by first | exact O.svEq rfl rfl | exact O.svNe rfl rfl | exact O.lenSv rfl rfl | exact O.move rfl | exact O.assign rfl | exact O.pickT rfl (by first | with_reducible rfl | assumption) rfl | exact O.pickF rfl (by first | with_reducible rfl | assumption) rfl | exact O.lenL rfl rfl | exact O.lenS rfl rfl | exact O.int rfl rfl (add64 (by omega)) | exact O.int rfl rfl (sub64 (by omega)) | exact O.int rfl rfl (add8 (by omega)) | exact O.cmp rfl rfl rfl | exact O.str rfl rfl rfl | exact O.boolEq rfl rfl rfl | exact O.not rfl) rfl ?_ | refine R.guardT1 rfl rfl (by first | with_reducible rfl | assumption) ?_ | refine R.guardT0 rfl rfl (by first | with_reducible rfl | assumption) ?_ | refine R.guardF1 rfl rfl (by first | with_reducible rfl | assumption) rfl ?_ | refine R.guardF0 rfl rfl (by first | with_reducible rfl | assumption) rfl ?_ | refine R.guardN rfl rfl rfl ?_ | refine R.done ?_ | refine W.seq ?_ | refine W.region ?_ | refine W.draw ?_ | refine W.block ?_ | refine W.condT rfl (by first | with_reducible rfl | assumption) ?_ | refine W.condF rfl (by first | with_reducible rfl | assumption) ?_ | refine W.retAft ?_ | refine W.retBlk ?_ | refine W.retLop ?_ | refine W.exitAft ?_ | refine W.exitLop ?_ | refine W.exitBlk ?_ | refine W.exitBlkNe rfl ?_ | refine W.skipAft ?_ | refine W.skipBlk ?_ | refine R.skip ?_))
    refine W.retFrd ((upd_ne _ _ _ _ (by omega)).trans (upd_same _ _ _)) ⟨rfl, ?_, t, upd_same _ _ _⟩
    rw [upd_ne _ _ _ _ (by omega), upd_same]
  · exact ht.sub (.cons rfl (.cons rfl (.nil _)))
  · intro v G' nx' ⟨h1, t2, h2⟩
    refine ⟨_, _, _, _, _, _, _, _, h2, by decide, ?_⟩
    have hW : W CC 12 Go.Proofs.Try.f12.ntmps .ret [(1, .ptr 0 0), (2, .ptr 1 0)] (upd G' 2 .gone) nx' [] .no (fin CC [.cell 2 9] fun v G x => ∃ ids, peek G pkDepth v = some (sv (wordN N), ids)) :=
      W.retFinC (o := 1) rfl ((upd_ne _ _ _ _ (by omega)).trans h1) rfl rfl ⟨[], rfl⟩
    exact hW.retI t fun i v hv => ht i v (by
      have := (Sub.cons rfl (Sub.cons rfl (Sub.nil _)) : Sub [(1, .ptr 0 0), (2, .ptr 1 0)] ((2, AV.ptr (0 + (0 + 1)) 0) :: (1, AV.ptr (0 + 0) 0) :: envOf 0 (List.map AV.imm [IV.lst (List.map sv l0)])))
      exact this i v hv)
end Go.Abs
