/- The abstract interpreter: addresses, lengths, append, parts of slices. -/
import Derived.Test.YtpkmljhdaijanaaAbsStore
namespace Go.Abs

variable {id : Nat}
variable {M M' : Mem} {ρ ρ' : Ref} {G G' : Nat → Obj} {w w' : World} {nx : Nat} {Q : Nat → Prop} {P : Program} {C : Cfg}

theorem moveAt_ok {d : Nat} {x v : AV} {c : Value} (h : moveAt d x = some v) (hx : VA M ρ G x c) : ∃ b off, c = .pointer (some ⟨b, off, none⟩) ∧ VA M ρ G v (.pointer (some ⟨b, off + d, none⟩)) := by
  unfold moveAt at h
  split at h
  · rename_i o off
    cases h
    cases hx with | ptr _ _ b hr => exact ⟨b, off, rfl, .ptr _ _ b hr⟩
  · rename_i o n i off
    cases h
    cases hx with | rptr _ _ _ _ b f hb hr => exact ⟨b, f, rfl, .rptr _ _ _ _ b _ hb fun et sz xs fr e => ⟨(hr et sz xs fr e).1, fun hn => by
      obtain ⟨l, c, h1, h2⟩ := (hr et sz xs fr e).2 hn
      exact ⟨l, c, h1, by omega⟩⟩⟩
  · rename_i cs off
    cases h
    have hx := hx.imm_inv
    cases hx with | fptr _ _ b vs e fr o0 h1 h2 h3 => exact ⟨b, o0 + off, rfl, .imm _ _ (by have := VI.fptr (M := M) _ (off + d) b vs e fr o0 h1 h2 h3; rwa [← Nat.add_assoc] at this)⟩
  · rename_i xs i off
    cases h
    have hx := hx.imm_inv
    cases hx with | eptr _ _ _ b vs e fr o0 sz h1 h2 h3 h4 h5 => exact ⟨b, _, rfl, .imm _ _ (by have := VI.eptr (M := M) _ i (off + d) b vs e fr o0 sz h1 h2 h3 h4 h5; rwa [← Nat.add_assoc] at this)⟩
  · cases h

theorem aFieldAddr_ok {t : TypeId} {f : Nat} {x v : AV} {c : Value} {ups : List (Nat × U)} (h : aFieldAddr C t x f = some (.val v ups)) (hx : VA M ρ G x c) :
    ups = [] ∧ ∃ u, (Instr.fieldAt t c f).run C.P w = .ok u w ∧ VA M ρ G v u := by
  unfold aFieldAddr at h
  split at h
  · rename_i i hi
    split at h
    · rename_i fs hd
      split at h
      · rename_i off sz hfs
        split at h
        · cases h
        · rename_i hsz
          split at h
          · rename_i v' hv
            cases h
            obtain ⟨info, zv, d, h1, h2, h3, h4, h5, h6, h7, h8⟩ := tyOf_some hi
            rw [hd] at h5
            cases d <;> simp only [tyd, reduceCtorEq, TyD.st.injEq] at h5
            rename_i fds
            obtain ⟨b, o, rfl, hv⟩ := moveAt_ok hv hx
            rw [h5] at hfs
            rw [List.getElem?_map] at hfs
            cases e : fds.toList[f]? with
            | none => rw [e] at hfs; cases hfs
            | some fd =>
              rw [e] at hfs
              simp only [Option.map_some, Option.some.injEq, Prod.mk.injEq] at hfs
              obtain ⟨rfl, rfl⟩ := hfs
              have e' : fds[f]? = some fd := by rw [← Array.getElem?_toList]; exact e
              have hfi : (C.P.info? fd.type).isSome = true := by
                simp only [fieldsOk, List.all_eq_true] at h4
                exact h4 fd (List.mem_of_getElem? e)
              obtain ⟨fi, hfi⟩ := Option.isSome_iff_exists.1 hfi
              have hcs : fi.size ≠ 0 := by simpa [Program.cellsOf, hfi] using hsz
              refine ⟨rfl, _, ?_, hv⟩
              simp only [Instr.fieldAt, Sem.run_bind, run_underlying' h2, Result.andThen_ok, e', Instr.sureAddr, pure_bind]
              simp [fieldPlace, run_sizeOf' hfi, hcs, add_none]
          · cases h
      · cases h
    · cases h
  · cases h

theorem elemAddr_ok {sz n : Nat} {x v : AV} {c : Value} (h : elemAddr G sz x n = some v) (hI : Inv Q w M ρ G nx) (hx : VA M ρ G x c) :
    ∃ b off len cap, c = .slice (some ⟨b, off, none⟩) len cap ∧ n < len ∧ VA M ρ G v (.pointer (some ⟨b, off + n * sz, none⟩)) := by
  unfold elemAddr at h
  split at h
  · rename_i xs
    split at h
    · rename_i y hy
      split at h
      · rename_i hsz
        cases h
        have hn := (List.getElem?_eq_some_iff.1 hy).1
        have hx := hx.imm_inv
        cases hx with
        | nil => simp at hn
        | empty => simp at hn
        | lst _ b off cp cs e fr sz' h0 hcp hM hs h1 h2 h3 =>
          have : sz' = sz := by rw [← h1 n y hy]; exact hsz
          subst this
          exact ⟨b, off, _, cp, rfl, hn, .imm _ _ (by have := VI.eptr (M := M) xs n 0 b cs e fr off sz' hM hs h1 h2 h3; exact this)⟩
      · cases h
    · cases h
  · rename_i q m
    split at h
    · rename_i et sz' xs fr hG
      split at h
      · rename_i hc
        obtain ⟨h1, h2, rfl⟩ := hc
        cases h
        cases hx with
        | row _ _ a l cp hb hr =>
          have hr := (hr et sz' xs fr hG).2 h1.symm
          have := hI.obj q
          unfold ObjOK at this
          rw [hG] at this
          obtain ⟨h0, v, cs, g1, g2, g3, g4⟩ := this
          rw [hr] at g1; cases g1
          rcases g2.2 with ⟨g, g'⟩ | ⟨g, cap, cur, g', _⟩
          · omega
          · cases g'
            refine ⟨g, 0, _, _, rfl, by omega, .rptr _ _ _ _ g _ hb fun et2 sz2 xs2 fr2 e2 => ?_⟩
            rw [hG] at e2; cases e2
            exact ⟨by omega, fun _ => ⟨_, _, hr, by omega⟩⟩
      · cases h
    · cases h
  · cases h

theorem aIndexAddr_ok {t : TypeId} {x ix v : AV} {c ci : Value} {ups : List (Nat × U)} (h : aIndexAddr C G t x ix = some (.val v ups)) (hI : Inv Q w M ρ G nx) (hx : VA M ρ G x c) (hix : VA M ρ G ix ci) :
    ups = [] ∧ ∃ u, (Instr.indexAt t c ci).run C.P w = .ok u w ∧ VA M ρ G v u := by
  unfold aIndexAddr at h
  split at h
  · rename_i k kk n hk
    obtain rfl := hix.int_inv
    obtain ⟨info, zv, d, h1, h2, h3, h4, h5, h6, h7, h8⟩ := tyOf_some hk
    split at h
    · rename_i et hd
      rw [hd] at h5
      cases d <;> simp only [tyd, reduceCtorEq, TyD.sl.injEq] at h5
      subst h5
      split at h
      · rename_i i hi
        split at h
        · rename_i hn
          split at h
          · rename_i v' hv
            cases h
            obtain ⟨info', zv', d', k1, k2, k3, k4, k5, k6, k7, k8⟩ := tyOf_some hi
            obtain ⟨b, off, len, cap, rfl, hlt, hv⟩ := elemAddr_ok hv hI hx
            refine ⟨rfl, _, ?_, hv⟩
            have hc : 0 ≤ n ∧ n < (len : Int) := by omega
            simp only [Instr.indexAt, asIntOf, pure_bind, Sem.run_bind, run_underlying' h2, Result.andThen_ok, hc, and_self, if_true]
            simp [run_sizeOf' k1, add_none, k6]
          · cases h
        · cases h
      · cases h
    · rename_i len et hd
      rw [hd] at h5
      cases d <;> simp only [tyd, reduceCtorEq, TyD.arr.injEq] at h5
      obtain ⟨rfl, rfl⟩ := h5
      split at h
      · rename_i i hi
        split at h
        · rename_i hn
          split at h
          · rename_i v' hv
            cases h
            obtain ⟨info', zv', d', k1, k2, k3, k4, k5, k6, k7, k8⟩ := tyOf_some hi
            obtain ⟨b, off, rfl, hv⟩ := moveAt_ok hv hx
            refine ⟨rfl, _, ?_, hv⟩
            simp only [Instr.indexAt, asIntOf, pure_bind, Sem.run_bind, run_underlying' h2, Result.andThen_ok, Instr.sureAddr]
            simp [run_sizeOf' k1, hn, add_none, k6]
          · cases h
        · cases h
      · cases h
    · cases h
  · cases h

/-- What is appended, or looked at element by element. -/
theorem elems_ok {x : AV} {c : Value} {ys : List AV} (h : elems G x = some ys) (hI : Inv Q w M ρ G nx) (hx : VA M ρ G x c) :
    (c = .slice none 0 0 ∧ ys = []) ∨ ∃ a cp, c = .slice (some a) ys.length cp ∧ (ys = [] ∨ ∃ b off cs e fr sz, a = ⟨b, off, none⟩ ∧ w.heap[b]? = some (.cells cs e fr) ∧ 0 < sz ∧ (∀ y ∈ ys, y.cells.length = sz) ∧ off + ys.length * sz ≤ cs.size ∧
      ∀ (i : Nat) y (j : Nat) u, ys[i]? = some y → y.cells[j]? = some u → VA M ρ G u (at_ cs (off + i * sz + j))) := by
  unfold elems at h
  split at h
  · cases h; cases hx; exact .inl ⟨rfl, rfl⟩
  · rename_i xs
    cases h
    have hx := hx.imm_inv
    cases hx with
    | nil => exact .inl ⟨rfl, rfl⟩
    | empty a c => exact .inr ⟨a, c, rfl, .inl rfl⟩
    | lst _ b off cp cs e fr sz h0 hcp hM hs h1 h2 h3 =>
      have hcl : ∀ z : IV, (AV.imm z).cells.length = z.cells.length := fun z => by cases z <;> simp [AV.cells, IV.cells]
      refine .inr ⟨⟨b, off, none⟩, cp, by simp, .inr ⟨b, off, cs, e, fr, sz, rfl, hI.mem _ _ hM, hs, fun y hy => ?_, by simpa using h2, fun i y j u hy hu => ?_⟩⟩
      · obtain ⟨z, hz, rfl⟩ := List.mem_map.1 hy
        obtain ⟨i, hi⟩ := List.getElem?_of_mem hz
        rw [hcl]; exact h1 i z hi
      · obtain ⟨z, rfl, hz⟩ := imm_get hy
        have hc2 : ∃ y, u = .imm y ∧ z.cells[j]? = some y := by
          cases z with
          | agg l => exact imm_get hu
          | _ => cases j <;> simp [AV.cells, IV.cells] at hu ⊢; exact hu.symm
        obtain ⟨y, rfl, hy2⟩ := hc2
        exact .imm _ _ (h3 i z j y hz hy2)
  · rename_i q n
    split at h
    · rename_i et sz xs fr hG
      split at h
      · rename_i hn
        cases h
        cases hx with
        | row _ _ a l cp hb hr =>
          have hr := (hr et sz _ fr hG).2 hn.symm
          have := hI.obj q
          unfold ObjOK at this
          rw [hG] at this
          obtain ⟨h0, v, cs, g1, g2, g3, g4⟩ := this
          have g1' := g1
          rw [hr] at g1; cases g1
          rcases g2.2 with ⟨g, g'⟩ | ⟨g, cap, cur, g', _, g5, g6, g7, g8, g9⟩
          · cases g; exact .inl ⟨rfl, List.eq_nil_of_length_eq_zero g'⟩
          · cases g'
            obtain ⟨_, _, _, _, cur', k1, k2, k3, k4⟩ := row_block hI hG hr
            refine .inr ⟨⟨g, 0, none⟩, _, rfl, .inr ⟨g, 0, cur', et, _, sz, rfl, k1, h0, fun y hy => AV.fits_len (k3 y hy), ?_, fun i y j u hy hu => ?_⟩⟩
            · rw [k2, Nat.zero_add]; exact Nat.mul_le_mul_right _ (by assumption)
            · rw [Nat.zero_add]; exact k4 i y j u hy hu
      · cases h
    · cases h
  · cases h

theorem lenA_ok {x : AV} {c : Value} {n : Nat} {t ty : TypeId} {i : TyI} (ht : C.ty t = some i) (h : lenA G i.d x = some n) (hI : Inv Q w M ρ G nx) (hx : VA M ρ G x c) :
    (Builtin.len_ #[t] ty #[c]).run C.P w = .ok (.int .i64 n) w := by
  obtain ⟨info, zv, d, h1, h2, h3, h4, h5, h6, h7, h8⟩ := tyOf_some ht
  rw [h5] at h
  unfold lenA at h
  split at h
  · rename_i hd
    cases d <;> simp only [tyd, reduceCtorEq] at hd
    split at h
    · rename_i s
      cases h
      obtain rfl := hx.str_inv
      simp [Builtin.len_, run_underlying' h2, goInt]
    · cases h
  · rename_i e hd
    cases d <;> simp only [tyd, reduceCtorEq] at hd
    split at h
    · rename_i l hl
      cases h
      rcases elems_ok hl hI hx with ⟨rfl, rfl⟩ | ⟨a, cp, rfl, _⟩
      · simp [Builtin.len_, run_underlying' h2, goInt]
      · simp [Builtin.len_, run_underlying' h2, goInt]
    · cases h
  · rename_i k e hd
    cases d <;> simp only [tyd, reduceCtorEq] at hd
    split at h
    · cases h
      have hx := hx.imm_inv
      cases hx
      simp [Builtin.len_, run_underlying' h2, goInt]
    · cases h
      have hx := hx.imm_inv
      cases hx with
      | fmp ks vs b es clk hM hk =>
        have := hI.mem _ _ hM
        simp [Builtin.len_, run_underlying' h2, goInt, getObj, Sem.run, this, hk]
    · rename_i o
      split at h
      · rename_i ks vs fr hG
        cases h
        cases hx with
        | map _ b hr =>
          have := hI.obj o
          unfold ObjOK at this
          rw [hG] at this
          obtain ⟨b', es, clk, g1, g2, g3, _⟩ := this
          rw [hr] at g1; cases g1
          simp [Builtin.len_, run_underlying' h2, goInt, getObj, Sem.run, g2, g3]
      · cases h
    · cases h
  · cases h

/-! ### append -/
theorem cells_flat {ys : List AV} {sz : Nat} (h : ∀ y ∈ ys, y.cells.length = sz) : ∀ (i : Nat) y (j : Nat) u, ys[i]? = some y → y.cells[j]? = some u → (ys.flatMap AV.cells)[i * sz + j]? = some u := by
  induction ys with
  | nil => intro i y j u hy; simp at hy
  | cons z r ih =>
    intro i y j u hy hu
    have hz := h z (by simp)
    cases i with
    | zero =>
      simp at hy; subst hy
      have := (List.getElem?_eq_some_iff.1 hu).1
      simp only [List.flatMap_cons, Nat.zero_mul, Nat.zero_add]
      rw [List.getElem?_append_left this]; exact hu
    | succ i =>
      simp only [List.flatMap_cons]
      rw [List.getElem?_append_right (by rw [hz, Nat.succ_mul]; omega), hz, show (i + 1) * sz + j - sz = i * sz + j by rw [Nat.succ_mul]; omega]
      exact ih (fun y hy => h y (by simp [hy])) i y j u (by simpa using hy) hu

/-- append, with more said of where the new row lies. -/
theorem append_own {t e : TypeId} {ty : TypeId} {i : TypeInfo} {z : Value} {base size : Nat} (ht : P.underlying t = some (.slice e)) (hi : P.info? e = some i) (hz : i.zero = some z) (hsize : i.size = size) (hzs : z.cells.size = size) (hsz : 0 < size)
    {v : Value} {n : Nat} {xs : List Value} (hown : w.ownsRow base e size v n xs) (a : Addr) (m c : Nat) (news : List Value) (hl : news.length = m * size) (hnews : ∀ (j : Nat) u, news[j]? = some u → w.cell? (a.add j) = some u) (h1 : ∀ u ∈ news, u.oneCell' = true)
    (hby : i.bytes ≤ 4096) (hm : n + m ≤ most) (hbase : base ≤ w.heap.size) :
    ∃ v' w', (Builtin.append_ #[t, t] ty #[v, .slice (some a) m c]).run P w = .ok v' w' ∧ w'.ownsRow base e size v' (n + m) (xs ++ news) ∧ w.grownBy w' v.ownBlock ∧
      (∀ b, v'.ownBlock = some b → v.ownBlock = some b ∨ w.heap.size ≤ b) ∧ (m = 0 → v' = v) := by
  have hml : n + m ≤ maxLen := by unfold most at hm; unfold maxLen; omega
  have hbt : (n + m) * i.bytes ≤ 140737488355328 := Nat.le_trans (Nat.mul_le_mul hm hby) (by decide)
  obtain ⟨v', w', hr, ho, hg, _⟩ := run_append_own (P := P) w base t ty e i z size i.bytes ht hi hz hsize rfl hzs hsz v n xs hown a m c news hl hnews h1 hml hbt hbase
  refine ⟨v', w', hr, ho, hg, ?_⟩
  subst hsize
  rcases hown.2 with ⟨rfl, rfl⟩ | ⟨g, cap, cur, rfl, hbg, hgg, hnc, hcm, hcs, htake⟩
  · rcases Nat.eq_zero_or_pos m with rfl | hm0
    · obtain ⟨v2, w2, hr2, ho2, _, hnil⟩ := run_append_own (P := P) w base t ty e i z i.size i.bytes ht hi hz rfl rfl hzs hsz _ 0 xs hown a 0 c news hl hnews h1 hml hbt hbase
      rw [hr] at hr2; cases hr2
      have := hnil.2 ⟨rfl, rfl⟩
      subst this
      exact ⟨fun b hb => .inl hb, fun _ => rfl⟩
    · have hr2 := run_append_nil (P := P) w t ty e i z ht hi hz a m c news hl hnews hm0 (by unfold maxLen at hml; omega) (by simp only [Nat.zero_add] at hbt; omega)
      rw [hr] at hr2; cases hr2
      exact ⟨fun b hb => by simp [Value.ownBlock] at hb; exact .inr (by omega), fun h => by omega⟩
  · by_cases hroom : n + m ≤ cap
    · have hr2 := run_append_room (P := P) w t ty e i ht hi g n cap cur hgg a m c news hl hnews h1 hroom (by rw [hl, hcs, ← Nat.add_mul]; exact Nat.mul_le_mul_right _ hroom)
      rw [hr] at hr2; cases hr2
      exact ⟨fun b hb => .inl hb, fun h => by subst h; rfl⟩
    · have hr2 := run_append_grow (P := P) w t ty e i z ht hi hz ⟨g, 0, none⟩ n cap xs hown.1 (hown.cells (g := g) rfl) a m c news hl hnews (by omega) (by unfold maxLen at hml; omega) (growslice_fits (by omega) hbt)
      rw [hr] at hr2; cases hr2
      exact ⟨fun b hb => by simp [Value.ownBlock] at hb; exact .inr (by omega), fun h => by omega⟩

theorem ownsRow_base {base sz n : Nat} {e : TypeId} {v : Value} {cs : List Value} (h : w.ownsRow base e sz v n cs) : w.ownsRow 0 e sz v n cs := by
  refine ⟨h.1, ?_⟩
  rcases h.2 with h | ⟨g, cap, cur, h1, _, h2⟩
  · exact .inl h
  · exact .inr ⟨g, cap, cur, h1, Nat.zero_le _, h2⟩

theorem ownsRow_blk {base sz n : Nat} {e : TypeId} {v : Value} {cs : List Value} (h : w.ownsRow base e sz v n cs) : blk v = v.ownBlock := by
  rcases h.2 with ⟨rfl, _⟩ | ⟨g, cap, cur, rfl, _⟩ <;> rfl

theorem flat_len {ys : List AV} {sz : Nat} (h : ∀ y ∈ ys, y.cells.length = sz) : (ys.flatMap AV.cells).length = ys.length * sz := by
  induction ys with
  | nil => simp
  | cons z r ih => simp only [List.flatMap_cons, List.length_append, List.length_cons, h z (by simp), ih fun y hy => h y (by simp [hy]), Nat.succ_mul]; omega

/-- The cells of what is appended, as a list. -/
theorem news_of {ys : List AV} {sz b off : Nat} {cs : Array Value} {e : TypeId} {fr : Nat × Nat} (hf : ∀ y ∈ ys, y.fits sz = true) (hg : w.heap[b]? = some (.cells cs e fr)) (hfit : off + ys.length * sz ≤ cs.size)
    (hc : ∀ (i : Nat) y (j : Nat) u, ys[i]? = some y → y.cells[j]? = some u → VA M ρ G u (at_ cs (off + i * sz + j))) (h0 : 0 < sz) :
    ∃ news : List Value, news.length = ys.length * sz ∧ (∀ (j : Nat) u, news[j]? = some u → w.cell? ((⟨b, off, none⟩ : Addr).add j) = some u) ∧ (∀ u ∈ news, u.oneCell' = true) ∧
      ∀ (i : Nat) y (j : Nat) u, ys[i]? = some y → y.cells[j]? = some u → VA M ρ G u (news.getD (i * sz + j) Go.undef) := by
  have hget : ∀ k, k < ys.length * sz → ((List.range (ys.length * sz)).map fun k => at_ cs (off + k))[k]? = some (at_ cs (off + k)) := fun k hk => by simp [List.getElem?_range hk]
  refine ⟨(List.range (ys.length * sz)).map fun k => at_ cs (off + k), by simp, fun j u hu => ?_, fun u hu => ?_, fun i y j u hy hu => ?_⟩
  · have hj : j < ys.length * sz := by have := (List.getElem?_eq_some_iff.1 hu).1; simpa using this
    rw [hget j hj] at hu; cases hu
    rw [add_none]; exact cell_at hg (by omega)
  · obtain ⟨k, hk, rfl⟩ := List.mem_map.1 hu
    simp at hk
    have hi : k / sz < ys.length := by rw [Nat.div_lt_iff_lt_mul h0]; exact hk
    have hj : k % sz < sz := Nat.mod_lt _ h0
    have hy := List.getElem?_eq_getElem hi
    have hyf := hf _ (List.getElem_mem hi)
    have hyl := AV.fits_len hyf
    have hu := List.getElem?_eq_getElem (l := ys[k / sz].cells) (i := k % sz) (by omega)
    have := hc (k / sz) _ (k % sz) _ hy hu
    rw [Nat.add_assoc, show k / sz * sz + k % sz = k by rw [Nat.mul_comm]; exact Nat.div_add_mod k sz] at this
    exact this.one (AV.fits_one hyf _ (List.getElem_mem _))
  · have hi := (List.getElem?_eq_some_iff.1 hy).1
    have hj := (List.getElem?_eq_some_iff.1 hu).1
    have hyl := AV.fits_len (hf y (List.mem_of_getElem? hy))
    rw [List.getD_eq_getElem?_getD, hget _ (mul_lt_of hi (by omega))]
    have := hc i y j u hy hu
    rw [Nat.add_assoc] at this
    exact this

theorem aAppend_ok {s : St} {id : Nat} {t u : TypeId} {a x v : AV} {ca cx : Value} {ups : List (Nat × U)} {ty : TypeId} (h : aAppend C s id t u a x = some (.val v ups)) (hI : Inv Q w M ρ s.G nx) (hid : ρ id = none) (hlt : id < nx)
    (ha : VA M ρ s.G a ca) (hx : VA M ρ s.G x cx) : Good id Q M ρ s.G nx w (updL s.G ups) v ((vNext (Builtin.append_ #[t, u] ty #[ca, cx])).run C.P w) := by
  unfold aAppend at h
  split at h
  · rename_i k ys hk hys
    split at h
    · rename_i et hd
      split at h
      · rename_i i hi
        split at h
        · rename_i hcnd
          obtain ⟨rfl, c2, c3, c4, c5⟩ := hcnd
          obtain ⟨info, zv, d, h1, h2, h3, h4, h5, h6, h7, h8⟩ := tyOf_some hk
          rw [hd] at h5
          cases d <;> simp only [tyd, reduceCtorEq, TyD.sl.injEq] at h5
          subst h5
          obtain ⟨info', zv', d', k1, k2, k3, k4, k5, k6, k7, k8⟩ := tyOf_some hi
          have hzs : zv'.cells.size = i.sz := by
            have := (cells_cv (M := M) (ρ := ρ) (G := s.G) zv').1
            rw [← k8] at this; rw [← this]; exact AV.fits_len c4
          have hyf : ∀ y ∈ ys, y.fits i.sz = true := by simpa [List.all_eq_true] using c5
          -- what the append comes to, from any row
          have key : ∀ (base : Nat) (v0 : Value) (n : Nat) (xs : List Value), w.ownsRow base et i.sz v0 n xs → n + ys.length ≤ most → base ≤ w.heap.size →
              ∃ v' w' news, (Builtin.append_ #[t, t] ty #[v0, cx]).run C.P w = .ok v' w' ∧ w'.ownsRow base et i.sz v' (n + ys.length) (xs ++ news) ∧ w.grownBy w' v0.ownBlock ∧
                (∀ b, v'.ownBlock = some b → v0.ownBlock = some b ∨ w.heap.size ≤ b) ∧ (ys.length = 0 → v' = v0) ∧
                ∀ (i' : Nat) y (j : Nat) u, ys[i']? = some y → y.cells[j]? = some u → VA M ρ s.G u (news.getD (i' * i.sz + j) Go.undef) := by
            intro base v0 n xs hown hm hb
            rcases elems_ok hys hI hx with ⟨rfl, rfl⟩ | ⟨ad, cp, rfl, hcase⟩
            · refine ⟨v0, w, [], run_append_owned_none (P := C.P) w base t ty et info' i.sz h2 k1 v0 n xs hown, by simpa using hown, ⟨rfl, rfl, rfl, Nat.le_refl _, fun _ _ _ => rfl⟩, fun b hb => .inl hb, fun _ => rfl, fun i' y j u hy => by simp at hy⟩
            · have hnews : ∃ news : List Value, news.length = ys.length * i.sz ∧ (∀ (j : Nat) u, news[j]? = some u → w.cell? (ad.add j) = some u) ∧ (∀ u ∈ news, u.oneCell' = true) ∧
                  ∀ (i' : Nat) y (j : Nat) u, ys[i']? = some y → y.cells[j]? = some u → VA M ρ s.G u (news.getD (i' * i.sz + j) Go.undef) := by
                rcases hcase with rfl | ⟨b, off, cs, e, fr, sz, rfl, g1, g2, g3, g4, g5⟩
                · exact ⟨[], by simp, fun j u hu => by simp at hu, fun u hu => by simp at hu, fun i' y j u hy => by simp at hy⟩
                · cases ys with
                  | nil => exact ⟨[], by simp, fun j u hu => by simp at hu, fun u hu => by simp at hu, fun i' y j u hy => by simp at hy⟩
                  | cons y0 r =>
                    have : sz = i.sz := by rw [← g3 y0 (by simp)]; exact AV.fits_len (hyf y0 (by simp))
                    subst this
                    exact news_of hyf g1 g4 g5 g2
              obtain ⟨news, n1, n2, n3, n4⟩ := hnews
              obtain ⟨v', w', r1, r2, r3, r4, r5⟩ := append_own (P := C.P) (ty := ty) h2 k1 k3 (k6.symm) hzs c2 hown ad ys.length cp news n1 n2 n3 (by omega) hm hb
              exact ⟨v', w', news, r1, r2, r3, r4, r5, n4⟩
          split at h
          · split at h
            · rename_i hlen
              cases h
              cases ha
              obtain ⟨v', w', news, r1, r2, r3, r4, r5, r6⟩ := key w.heap.size (.slice none 0 0) 0 [] (World.ownsRow_nil w _ _ _) (by omega) (Nat.le_refl _)
              simp only [Nat.zero_add, List.nil_append] at r2
              refine good_row (ids := []) (w2 := w') (v := v') (cs := news) hI hid hlt c2 (ownsRow_base r2) hyf r6 (fun b hb => ?_) ⟨r3.os, r3.tape, r3.output, r3.size, fun b hb => ?_⟩ (fun b hb => r3.block b hb (by simp [Value.ownBlock])) r1
              · rw [ownsRow_blk r2] at hb
                rcases r4 b hb with h | h
                · simp [Value.ownBlock] at h
                · exact h
              · have : b < w.heap.size := by
                  rcases Nat.lt_or_ge b w.heap.size with h1 | h1
                  · exact h1
                  · exact absurd (hI.new b h1) hb
                exact r3.block b this (by simp [Value.ownBlock])
            · cases h
          · rename_i q n
            split at h
            · rename_i et' sz xs hG
              split at h
              · rename_i hc
                obtain ⟨e1, rfl, rfl, hlen⟩ := hc
                cases h
                have hobj := hI.obj q
                unfold ObjOK at hobj
                rw [hG] at hobj
                obtain ⟨h0, v0, cs, g1, g2, g3, g4⟩ := hobj
                have hca : ca = v0 := by
                  cases ha with
                  | row _ _ a' l cp hb hr =>
                    have := (hr et' _ xs _ hG).2 e1.symm
                    rw [g1] at this; cases this; rfl
                subst hca
                obtain ⟨v', w', news, r1, r2, r3, r4, r5, r6⟩ := key 0 ca xs.length cs g2 (by omega) (Nat.zero_le _)
                have hslice : ∃ a' l cp, ca = .slice a' l cp := by
                  rcases g2.2 with ⟨rfl, _⟩ | ⟨g, cap, cur, rfl, _⟩ <;> exact ⟨_, _, _, rfl⟩
                have hslice' : ∃ a' cp, v' = .slice a' (xs ++ ys).length cp := by
                  rcases r2.2 with ⟨rfl, e⟩ | ⟨g, cap, cur, rfl, _⟩
                  · exact ⟨_, _, by rw [List.length_append, e]⟩
                  · exact ⟨_, _, by rw [List.length_append]⟩
                have hlive : (s.G q).live = true := by rw [hG]; rfl
                have hfroz : (s.G q).frozen = false := by rw [hG]; rfl
                have hqnx : q < nx := by
                  rcases Nat.lt_or_ge q nx with h | h
                  · exact h
                  · rw [hI.free q h] at g1; cases g1
                have hE : Ev M ρ s.G M (upd ρ q (some v')) (upd s.G q (.row et' i.sz (xs ++ ys) false)) := by
                  refine ⟨Mem.le_refl M, fun o v h => ?_, fun o hb et2 sz2 xs2 fr2 h => ?_⟩
                  · by_cases ho : o = q
                    · subst ho; rw [g1] at h; cases h; exact .inr ⟨hslice, by simp [upd]⟩
                    · left; simp [upd, ho, h]
                  · by_cases ho : o = q
                    · subst ho
                      simp only [upd, if_true, Obj.row.injEq] at h
                      obtain ⟨rfl, rfl, rfl, rfl⟩ := h
                      refine ⟨xs, _, hG, by simp, fun hq => ?_⟩
                      have : ys.length = 0 := by simpa using hq
                      simp [upd, r5 this, g1]
                    · simp only [upd, if_neg ho] at h ⊢
                      exact ⟨xs2, fr2, h, Nat.le_refl _, fun _ => trivial⟩
                have hblk : ∀ b, blk v' = some b → w.heap.size ≤ b ∨ ((s.G q).live = true ∧ (s.G q).frozen = false ∧ ∃ v, ρ q = some v ∧ blk v = some b) := by
                  intro b hb
                  rw [ownsRow_blk r2] at hb
                  rcases r4 b hb with h | h
                  · exact .inr ⟨hlive, hfroz, ca, g1, by rw [ownsRow_blk g2]; exact h⟩
                  · exact .inl h
                refine ⟨_, v', w', M, upd ρ q (some v'), run_vNext r1, .inl rfl, hE, ?_, ?_, ⟨r3.os, r3.tape, r3.output, r3.size, fun b hb => ?_⟩, MQ.refl _ _, fun o _ e => by by_cases h : o = q <;> simp_all [upd]⟩
                · refine hI.put hqnx hE (fun b => ?_) r3.size ?_ hblk
                  · rcases Nat.lt_or_ge b w.heap.size with h | h
                    · by_cases hbq : some b = ca.ownBlock
                      · exact .inr (.inr ⟨hlive, hfroz, ca, g1, by rw [ownsRow_blk g2]; exact hbq.symm⟩)
                      · exact .inl (r3.block b h hbq)
                    · exact .inr (.inl h)
                  · unfold ObjOK
                    simp only [upd, if_true]
                    refine ⟨h0, v', cs ++ news, rfl, by rw [List.length_append]; exact r2, ⟨fun z hz => ?_, fun a z j y hz hy => ?_⟩, fun h => by cases h⟩
                    · rcases List.mem_append.1 hz with hz | hz
                      · exact g3.fit z hz
                      · exact hyf z hz
                    · refine VA.mono hE ?_
                      rw [List.getElem?_append] at hz
                      have hcs := g2.1
                      have hzl : z.cells.length = i.sz := by
                        split at hz
                        · exact AV.fits_len (g3.fit z (List.mem_of_getElem? hz))
                        · exact AV.fits_len (hyf z (List.mem_of_getElem? hz))
                      have hj := (List.getElem?_eq_some_iff.1 hy).1
                      split at hz
                      · rename_i hlt2
                        have hlt3 := mul_lt_of (sz := i.sz) (j := j) hlt2 (by omega)
                        have : (cs ++ news).getD (a * i.sz + j) Go.undef = cs.getD (a * i.sz + j) Go.undef := by
                          simp only [List.getD_eq_getElem?_getD]; rw [List.getElem?_append_left (by omega)]
                        rw [this]; exact g3.cell a z j y hz hy
                      · rename_i hge
                        have hmul : xs.length * i.sz ≤ a * i.sz := Nat.mul_le_mul_right _ (by omega)
                        have hsub : (a - xs.length) * i.sz = a * i.sz - xs.length * i.sz := Nat.sub_mul ..
                        have : (cs ++ news).getD (a * i.sz + j) Go.undef = news.getD ((a - xs.length) * i.sz + j) Go.undef := by
                          simp only [List.getD_eq_getElem?_getD]; rw [List.getElem?_append_right (by omega)]; congr 2; omega
                        rw [this]; exact r6 (a - xs.length) z j y hz hy
                · obtain ⟨a', cp, rfl⟩ := hslice'
                  refine .row q _ _ _ _ (by simp [upd]) fun et2 sz2 xs2 fr2 e => ?_
                  simp only [updL, U.on, upd, if_true, Obj.row.injEq] at e
                  obtain ⟨rfl, rfl, rfl, rfl⟩ := e
                  exact ⟨Nat.le_refl _, fun _ => by simp [upd]⟩
                · have hlt3 : b < w.heap.size := by
                    rcases Nat.lt_or_ge b w.heap.size with h1 | h1
                    · exact h1
                    · exact absurd (hI.new b h1) hb
                  refine r3.block b hlt3 fun e => hb ?_
                  exact (hI.own q ca b hlive hfroz g1 (by rw [ownsRow_blk g2]; exact e.symm)).2
              · cases h
            · cases h
          · cases h
        · cases h
      · cases h
    · cases h
  · cases h

end Go.Abs
