/- What a graph's nodes reach; how it is found, depth first. (No program in sight.) -/
import Derived.Test.YtpkmljhdaijanaaPart12
namespace Go.Abs

theorem Reach.head {tos : List (List Nat)} {i k j : Nat} (hk : k ∈ tos.getD i []) (h : Reach tos k j) : Reach tos i j := by
  induction h with
  | one h => exact .more (.one hk) h
  | more _ h ih => exact .more ih h
theorem Reach.trans {tos : List (List Nat)} {i k j : Nat} (h0 : Reach tos i k) (h : Reach tos k j) : Reach tos i j := by
  induction h with
  | one h => exact .more h0 h
  | more _ h ih => exact .more ih h

theorem nodup_le {α : Type} [BEq α] [LawfulBEq α] : ∀ (a b : List α), a.Nodup → (∀ x ∈ a, x ∈ b) → a.length ≤ b.length
  | [], b, _, _ => by simp
  | x :: r, b, hn, h => by
    have hx := h x (by simp)
    rw [List.nodup_cons] at hn
    have := nodup_le r (b.erase x) hn.2 fun y hy => by
      have hne : y ≠ x := fun e => hn.1 (e ▸ hy)
      exact (List.mem_erase_of_ne hne).2 (h y (by simp [hy]))
    rw [List.length_erase_of_mem hx] at this
    have : 0 < b.length := List.length_pos_of_mem hx
    simp only [List.length_cons]; omega
theorem nodup_lt {a : List Nat} {n : Nat} (hn : a.Nodup) (h : ∀ x ∈ a, x < n) : a.length ≤ n := by
  have := nodup_le a (List.range n) hn fun x hx => by simpa using h x hx
  simpa using this

/-- Where the search stands: what it had found, and has found, when some are done. -/
structure Dfs (tos : List (List Nat)) (d : Nat) (done out out' : List Nat) : Prop where
  ext : ∃ new, out' = out ++ new
  nodup : out'.Nodup
  bnd : ∀ x ∈ out', x < tos.length
  snd : ∀ x ∈ out', x ∈ out ∨ Reach tos d x
  hit : ∀ x ∈ done, x ∈ out'
  clos : ∀ x ∈ out', x ∈ out ∨ ∀ y ∈ tos.getD x [], y ∈ out'

variable {tos : List (List Nat)} {d k : Nat} {done out out1 out2 : List Nat}
theorem Dfs.init (hn : out.Nodup) (hb : ∀ x ∈ out, x < tos.length) : Dfs tos d [] out out :=
  ⟨⟨[], by simp⟩, hn, hb, fun _ h => .inl h, (fun _ h => by cases h), fun _ h => .inl h⟩
theorem Dfs.sub (h : Dfs tos d done out out1) : ∀ x ∈ out, x ∈ out1 := by
  obtain ⟨new, rfl⟩ := h.ext
  intro x hx; simp [hx]
theorem Dfs.skip (h : Dfs tos d done out out1) (hk : k ∈ out1) : Dfs tos d (done ++ [k]) out out1 :=
  ⟨h.ext, h.nodup, h.bnd, h.snd, (fun x hx => (List.mem_append.1 hx).elim (h.hit x) fun hx => by rw [List.mem_singleton.1 hx]; exact hk), h.clos⟩
theorem Dfs.start (h : Dfs tos d done out out1) (hk : k ∉ out1) (hb : k < tos.length) : (out1 ++ [k]).Nodup ∧ (∀ x ∈ out1 ++ [k], x < tos.length) := by
  refine ⟨?_, fun x hx => ?_⟩
  · rw [List.nodup_append]
    exact ⟨h.nodup, by simp, fun a ha b hb => by rw [List.mem_singleton.1 hb]; exact fun e => hk (e ▸ ha)⟩
  · rcases List.mem_append.1 hx with hx | hx
    · exact h.bnd x hx
    · rw [List.mem_singleton.1 hx]; exact hb
theorem Dfs.step (h : Dfs tos d done out out1) (hk : k ∈ tos.getD d []) (h2 : Dfs tos k (tos.getD k []) (out1 ++ [k]) out2) : Dfs tos d (done ++ [k]) out out2 := by
  have hs : ∀ x ∈ out1, x ∈ out2 := fun x hx => h2.sub x (by simp [hx])
  refine ⟨?_, h2.nodup, h2.bnd, fun x hx => ?_, fun x hx => ?_, fun x hx => ?_⟩
  · obtain ⟨a, ha⟩ := h.ext
    obtain ⟨b, hb⟩ := h2.ext
    exact ⟨a ++ [k] ++ b, by rw [hb, ha]; simp⟩
  · rcases h2.snd x hx with hx | hx
    · rcases List.mem_append.1 hx with hx | hx
      · exact h.snd x hx
      · rw [List.mem_singleton.1 hx]; exact .inr (.one hk)
    · exact .inr (.head hk hx)
  · rcases List.mem_append.1 hx with hx | hx
    · exact hs x (h.hit x hx)
    · rw [List.mem_singleton.1 hx]; exact h2.sub k (by simp)
  · rcases h2.clos x hx with hx | hx
    · rcases List.mem_append.1 hx with hx | hx
      · rcases h.clos x hx with hx | hx
        · exact .inl hx
        · exact .inr fun y hy => hs y (hx y hy)
      · rw [List.mem_singleton.1 hx]; exact .inr h2.hit
    · exact .inr hx
theorem Dfs.fin (h : Dfs tos d (tos.getD d []) [] out1) (x : Nat) : x ∈ out1 ↔ Reach tos d x := by
  refine ⟨fun hx => (h.snd x hx).elim (fun h => by cases h) id, fun hx => ?_⟩
  induction hx with
  | one hx => exact h.hit _ hx
  | more _ hj ih => exact (h.clos _ ih).elim (fun h => by cases h) fun h => h _ hj
end Go.Abs

/- Programs that are looked at: what a definition reaches. -/
open Go Go.Abs
namespace Go.Abs
set_option maxRecDepth 100000
set_option maxHeartbeats 4000000
def ty74 : TyI := { d := TyD.mp 3 4, sz := 1, bytes := 8, zero := AV.imm IV.nilmap }
instance tyis74 : TyIs CC 74 ty74 := ⟨by kernel_rfl⟩
instance fnis47 : FnIs CC 47 := ⟨rfl, fun _ => rfl⟩
instance fnis49 : FnIs CC 49 := ⟨rfl, fun _ => rfl⟩

theorem ret49 (e : Exp) : Ret CC 49 [e.iv] (.fn (.func 80) [.fptr e.iv.cells 0]) := by
  obtain ⟨op, name, n', fold, calcs, kids⟩ := e
  refine Ret.of (fn := Go.Proofs.Try.f49) (by kernel_rfl) rfl rfl ?_
  refine AA ?_
  exact W.retFin1 rfl ⟨[0], rfl⟩

/-- The scope, when it was looked at. -/
def scopeIV (p : Pgm) (ahead n : Int) : IV := .fptr [numIV p.srcs, numIV (defNames p), shapesIV, .int .i64 ahead, .int .i64 n] 0
def setIV (l : List Nat) : IV := .fmp (l.map natIV) (l.map fun _ => .bool true)
def setObj (l : List Nat) : Obj := .mp (l.map natIV) ((l.map fun _ => IV.bool true).map .imm) false
/-- The definitions that some nodes name. -/
def stepsN (names : List Str) (l : List Exp) : List Nat := (l.filter namesDef).map fun x => idxN names x.name

theorem natKey (k : Nat) : ∀ l : List Nat, keyFind (natIV k) (l.map natIV) = some (l.findIdx? fun x => k == x)
  | [] => rfl
  | x :: r => by
    have e : scalarEq (natIV k) (natIV x) = some (k == x) := by
      show (if IntKind.i64 = IntKind.i64 then some (((k : Nat) : Int) == ((x : Nat) : Int)) else none) = _
      rw [if_pos rfl]
      congr 1
      by_cases h : k = x
      · subst h; simp
      · have : ¬ (k : Int) = (x : Int) := by omega
        rw [beq_eq_false_iff_ne.2 h, beq_eq_false_iff_ne.2 this]
    rw [List.map_cons, keyFind, e, List.findIdx?_cons]
    cases k == x with
    | true => rfl
    | false => simp only [natKey k r]; rfl
theorem findIdx_contains' {α : Type} [BEq α] [LawfulBEq α] (s : α) : ∀ l : List α, (l.findIdx? fun x => s == x).isSome = l.contains s
  | [] => rfl
  | x :: r => by
    rw [List.findIdx?_cons, List.contains_cons]
    cases h : s == x with
    | true => simp
    | false =>
      simp only [Bool.false_or]
      rw [← findIdx_contains' s r]
      cases (r.findIdx? fun x => s == x) <;> rfl
theorem findIdx_lt' {α : Type} [BEq α] {s : α} {j : Nat} : ∀ {l : List α}, (l.findIdx? fun x => s == x) = some j → j < l.length
  | [], h => by cases h
  | x :: r, h => by
    rw [List.findIdx?_cons] at h
    split at h
    · cases h; simp
    · cases hr : r.findIdx? fun x => s == x with
      | none => rw [hr] at h; cases h
      | some k =>
        rw [hr] at h
        cases h
        have := findIdx_lt' hr
        simp; omega
theorem setLook (l : List Nat) (k : Nat) : lookIs (some ty3) (some ty4) (some (l.map natIV, (l.map fun _ => IV.bool true).map .imm)) (natIV k) false (.imm (.bool (l.contains k))) := by
  refine ⟨rfl, ?_⟩
  rw [natKey, ← findIdx_contains']
  cases h : l.findIdx? fun x => k == x with
  | none => exact .inr ⟨rfl, rfl⟩
  | some j =>
    have := findIdx_lt' h
    refine .inl ⟨j, .imm (.bool true), rfl, ?_, rfl⟩
    simp [this]
theorem setNew {l : List Nat} {k : Nat} (h : l.contains k = false) : keyFind (natIV k) (l.map natIV) = some none := by
  rw [natKey]
  rw [← findIdx_contains'] at h
  cases h' : l.findIdx? fun x => k == x with
  | none => rfl
  | some j => rw [h'] at h; cases h
theorem setObj_add (l : List Nat) (k : Nat) : setObj (l ++ [k]) = .mp (l.map natIV ++ [natIV k]) ((l.map fun _ => IV.bool true).map .imm ++ [.imm (.bool true)]) false := by
  unfold setObj; simp

theorem stepsN_take {names : List Str} {l : List Exp} {x : Exp} {i : Nat} (h : l[i]? = some x) : stepsN names (l.take (i + 1)) = stepsN names (l.take i) ++ (if namesDef x then [idxN names x.name] else []) := by
  unfold stepsN
  rw [List.take_add_one, h, List.filter_append, List.map_append]
  congr 1
  simp only [Option.toList, List.filter_cons, List.filter_nil]
  split <;> rfl

/-- What the search is called with. -/
structure Lb (p : Pgm) (ahead n : Int) (M pb sb ob lb nx : Nat) (G : Nat → Obj) : Prop where
  bp : G pb = .box [.imm (.lst (p.srcs.map sv)), .imm (.lst (p.defs.map Dfn.iv))] false
  bs : G sb = .box [.imm (scopeIV p ahead n)] false
  bo : G ob = .box [.map M] false
  bl : G lb = .box [.fn (.func 78) [.ptr pb 0, .ptr sb 0, .ptr ob 0, .ptr lb 0]] false
  lt : (M < nx ∧ pb < nx ∧ sb < nx ∧ ob < nx ∧ lb < nx) ∧ M ≠ pb ∧ M ≠ sb ∧ M ≠ ob ∧ M ≠ lb
theorem Lb.fr {p : Pgm} {ahead n : Int} {M pb sb ob lb nx nx' : Nat} {G G' : Nat → Obj} (h : Lb p ahead n M pb sb ob lb nx G) (hn : nx ≤ nx') (hG : ∀ o, o < nx → o ≠ M → G' o = G o) : Lb p ahead n M pb sb ob lb nx' G' := by
  obtain ⟨h1, h2, h3, h4, ⟨a, b, c, d, e⟩, f, g, i, j⟩ := h
  exact ⟨(hG _ b (Ne.symm f)).trans h1, (hG _ c (Ne.symm g)).trans h2, (hG _ d (Ne.symm i)).trans h3, (hG _ e (Ne.symm j)).trans h4, by omega⟩

/-- What a definition's nodes name stands among the names. -/
structure Tos (p : Pgm) (tos : List (List Nat)) : Prop where
  len : tos.length = p.defs.length
  at' : ∀ (i : Nat) d, p.defs[i]? = some d → tos.getD i [] = stepsN (defNames p) (allE d.exp)
  lt : ∀ (i : Nat) d, p.defs[i]? = some d → ∀ k ∈ stepsN (defNames p) (allE d.exp), k < tos.length

theorem cal78 {p : Pgm} (hp : p.Fits) {tos : List (List Nat)} (ht : Tos p tos) {ahead n : Int} : ∀ (m d : Nat) (out : List Nat) (M pb sb ob lb nx : Nat) (G : Nat → Obj), tos.length - out.length ≤ m → out.Nodup → (∀ x ∈ out, x < tos.length) → d < tos.length → Lb p ahead n M pb sb ob lb nx G → G M = setObj out →
    CalP CC 78 [.imm (natIV d), .ptr pb 0, .ptr sb 0, .ptr ob 0, .ptr lb 0] G nx fun
      | .ret v G' nx' => v = .imm (.tup []) ∧ nx ≤ nx' ∧ (∀ o, o < nx → o ≠ M → G' o = G o) ∧ ∃ out', G' M = setObj out' ∧ Dfs tos d (tos.getD d []) out out'
      | .pan _ _ _ => False := by
  intro m
  induction m using Nat.strongRecOn with
  | ind m ih =>
  intro d out M pb sb ob lb nx G hm hnd hbd hd hL hM
  obtain ⟨⟨l1, l2, l3, l4, l5⟩, n1, n2, n3, n4⟩ := hL.lt
  obtain ⟨df, hx⟩ : ∃ df, p.defs[d]? = some df := at_lt (by rw [← ht.len]; exact hd)
  have hxi := at_map Dfn.iv hx
  have hdc := df.cells_len
  have hfit := hp.exp df (List.mem_of_getElem? hx)
  have hr49 := ret49 df.exp
  have hat := ht.at' d df hx
  have hlt := ht.lt d df hx
  have hbp := hL.bp
  rw [← hat] at hlt
  refine CalP.of (fn := Go.Proofs.Try.f78) (by kernel_rfl) rfl rfl ?_
  obtain ⟨nm, e⟩ := df
  obtain ⟨op, name, n', fold, calcs, kids⟩ := e
  refine AN ?_
  refine W.nodes _ hfit (fun i G1 => (∀ o, o < nx → o ≠ M → G1 o = G o) ∧ ∃ out1, G1 M = setObj out1 ∧ Dfs tos d (stepsN (defNames p) ((allE (.mk op name n' fold calcs kids)).take i)) out out1) (fun _ => False) (fun _ _ _ => False)
    rfl rfl rfl rfl rfl ?_ ?_ ?_ ?_ ?_ ?_ ?_
  · rintro i G1 G2 ⟨h1, out1, h2, h3⟩ hG
    exact ⟨fun o h4 h5 => (hG o (by omega)).trans (h1 o h4 h5), out1, (hG M (by omega)).trans h2, h3⟩
  · intro _ _ h; exact h.elim
  · exact ⟨fun o _ _ => rfl, out, hM, .init hnd hbd⟩
  · rintro q i x G1 nx1 lp0 lp1 Φr hq hxa hn ⟨h1, out1, h2, h3⟩ hlp next _ _
    have hst := stepsN_take (names := defNames p) hxa
    rw [hst] at next
    have hL1 : Lb p ahead n M pb sb ob lb nx1 G1 := hL.fr (by omega) h1
    have hmem : namesDef x = true → idxN (defNames p) x.name ∈ tos.getD d [] := fun h => by
      rw [hat]
      exact List.mem_map.2 ⟨x, List.mem_filter.2 ⟨List.mem_of_getElem? hxa, h⟩, rfl⟩
    obtain ⟨op', name', m', fold', calcs', kids'⟩ := x
    refine W.regionN ?_
    refine AQ ?_
    refine R.doneAstQ at_upd ?_
    have hbs := hL1.bs
    have hbo := hL1.bo
    have hbl := hL1.bl
    have hL2 := numLook0 (defNames p) name'
    have hL2' : (Exp.mk op' name' m' fold' calcs' kids').name = name' := rfl
    rw [hL2'] at hmem next
    generalize idxN (defNames p) name' = k at *
    have hset := setLook out1 k
    refine W.gen' (fun G2 => G2 (nx1 + 0) = .box [.imm (.int .i64 op'), .imm (sv name'), .imm (.int .i64 m'), .imm (.int .i64 fold'), .imm (.lst (Trm.ivs calcs')), .imm (.lst (Exp.ivs kids'))] false ∧ G2 q = lp1 ∧ ∀ o, o < nx1 → o ≠ q → G2 o = G1 o) ⟨at_upd, at_upd, fun o _ _ => at_upd⟩ ?_
    rintro G2 ⟨hbx, hlp2, hfr2⟩
    have hM2 : G2 M = setObj out1 := (hfr2 M (by omega) (by omega)).trans h2
    have hbs2 := (hfr2 sb (by omega) (by omega)).trans hbs
    have hbo2 := (hfr2 ob (by omega) (by omega)).trans hbo
    have hbl2 := (hfr2 lb (by omega) (by omega)).trans hbl
    have hset2 : lookIs (some ty3) (some ty4) (mapKV G2 (.map M)) (natIV k) false (.imm (.bool (out1.contains k))) := by
      simp only [mapKV, hM2, setObj]; exact hset
    have hnext : ∀ {f' : Nat} {G3 : Nat → Obj} {nx3 : Nat} {l3 : Env} {out3 : List Nat}, nx1 ≤ nx3 → (∀ o, o < nx1 → o ≠ M → G3 o = G2 o) → G3 M = setObj out3 → Dfs tos d (stepsN (defNames p) (List.take i (allE (Exp.mk op name n' fold calcs kids))) ++ if namesDef (Exp.mk op' name' m' fold' calcs' kids') = true then [k] else []) out out3 →
        W CC f' Go.Proofs.Try.f78.ntmps .skip l3 G3 nx3 [] .rnd Φr := by
      intro f' G3 nx3 l3 out3 g1 g2 g3 g4
      refine next g1 (fun o g5 g6 => ?_) ⟨fun o g5 g6 => ?_, out3, g3, g4⟩ ((g2 q (by omega) (by omega)).trans hlp2)
      · rw [g2 o (by omega) (by omega), hfr2 o (by omega) (by omega)]
      · rw [g2 o (by omega) g6, hfr2 o (by omega) (by omega), h1 o g5 g6]
    clear hset hbs hbo hbl h2 hlp next
    have hcase : ((op' != 2) = true ∧ (op' != 3) = true) ∨ ((op' != 2) = false ∨ ((op' != 2) = true ∧ (op' != 3) = false)) := by
      cases op' != 2 <;> cases op' != 3 <;> simp
    rcases hcase with ⟨hA, hB⟩ | hyes
    · have hnd : namesDef (.mk op' name' m' fold' calcs' kids') = false := by
        show (op' == 2 || op' == 3) = false
        simp at hA hB
        simp [hA, hB]
      rw [hnd, if_neg (by decide), List.append_nil] at hnext
      refine AN ?_
      exact hnext (by omega) (fun o _ _ => rfl) hM2 h3
    · have hnd : namesDef (.mk op' name' m' fold' calcs' kids') = true := by
        show (op' == 2 || op' == 3) = true
        simp at hyes
        rcases hyes with h | ⟨_, h⟩ <;> simp [h]
      rw [hnd, if_pos rfl] at hnext
      have hmem := hmem hnd
      rcases Bool.eq_false_or_eq_true (out1.contains k) with hC | hC
      · have hC' : (!out1.contains k) = false := by rw [hC]; rfl
        rcases hyes with hA | ⟨hA, hB⟩
        all_goals
          refine AN ?_
          exact hnext (by omega) (fun o _ _ => rfl) hM2 (h3.skip (by simpa using hC))
      · have hC' : (!out1.contains k) = true := by rw [hC]; rfl
        have hnk : k ∉ out1 := by simpa using hC
        have hkl := hlt k hmem
        obtain ⟨e1, e2⟩ := h3.start hnk hkl
        have hle := nodup_lt e1 e2
        rw [List.length_append] at hle
        simp only [List.length_cons, List.length_nil] at hle
        rcases hyes with hA | ⟨hA, hB⟩
        all_goals
          refine AN ?_
          refine R.opN1 (O.mapNew rfl inferInstance rfl rfl rfl hM2 rfl (setNew hC)) ?_
          refine R.done ?_
          refine AN ?_
          refine R.callBP rfl rfl rfl rfl rfl ((ih (tos.length - (out1.length + 1)) (by have := h3.ext; obtain ⟨new, hnew⟩ := this; rw [hnew, List.length_append] at hle ⊢; omega) k (out1 ++ [k]) M pb sb ob lb _ _ (by simp) e1 e2 hkl (hL.fr (by omega) fun o g5 g6 => ?_) ?_).mono fun r hr => ?_)
          · rw [upd_ne _ _ _ _ g6, hfr2 o (by omega) (by omega), h1 o g5 g6]
          · rw [upd_same, setObj_add]
          cases r with
          | pan u G4 nx4 => exact hr.elim
          | ret v G4 nx4 =>
            obtain ⟨rfl, g1, g2, out2, g3, g4⟩ := hr
            refine AN ?_
            exact hnext (by omega) (fun o g5 g6 => by rw [g2 o (by omega) g6, upd_ne _ _ _ _ g6]) g3 (h3.step hmem g4)
  · rintro G1 nx1 ⟨h1, out1, h2, h3⟩ hn
    rw [List.take_length, ← hat] at h3
    refine AN ?_
    exact W.skipFinP rfl ⟨rfl, by omega, h1, out1, h2, h3⟩
  · intro _ _ h; exact h.elim
  · intro _ _ _ h; exact h.elim

/-- What a definition reaches, as the program finds it. -/
theorem ret47 {p : Pgm} (hp : p.Fits) {tos : List (List Nat)} (ht : Tos p tos) (ahead n : Int) {d : Nat} (hd : d < tos.length) :
    ∃ out, out.Nodup ∧ (∀ x ∈ out, x < tos.length) ∧ (∀ x, x ∈ out ↔ Reach tos d x) ∧ Ret CC 47 [scopeIV p ahead n, p.iv, natIV d] (setIV out) := by
  have key : Cal CC 47 ([scopeIV p ahead n, p.iv, natIV d].map .imm) (fun _ => .gone) 0 fun v G' _ => ∃ out, Dfs tos d (tos.getD d []) [] out ∧ ∃ ids, peek G' pkDepth v = some (setIV out, ids) := by
    obtain ⟨srcs, defs⟩ := p
    refine Cal.of (fn := Go.Proofs.Try.f47) (by kernel_rfl) rfl rfl ?_
    refine AA ?_
    refine R.callBP rfl rfl rfl rfl rfl ((cal78 hp ht (ahead := ahead) (n := n) tos.length d [] (0 + 3 + 0) (0 + 1) (0 + 0) (0 + 3 + 1) (0 + 3 + 3 + 0) _ _ (by simp) (by simp) (by simp) hd ⟨rfl, rfl, rfl, rfl, by omega⟩ rfl).mono fun r hr => ?_)
    cases r with
    | pan u G4 nx4 => exact hr.elim
    | ret v G4 nx4 =>
      obtain ⟨rfl, g1, g2, out2, g3, g4⟩ := hr
      have g5 : G4 (0 + 3 + 1) = .box [.map (0 + 3 + 0)] false := (g2 _ (by omega) (by omega)).trans rfl
      refine AN ?_
      exact W.retFin1 rfl ⟨out2, g4, peek_mp g3⟩
  obtain ⟨n', v, G', nx', h1, out, h2, ids, h3⟩ := key
  exact ⟨out, h2.nodup, h2.bnd, h2.fin, n', v, G', nx', _, ids, h1, h3⟩
end Go.Abs

/- Rings, and what reaches itself; names that are fresh, and different. (No program in sight.) -/
open Go Go.Abs
namespace Go.Abs
set_option maxRecDepth 100000

/-! ### different names -/
theorem getD_append_left {a b : List Str} {i : Nat} (h : i < a.length) : (a ++ b).getD i [] = a.getD i [] := by
  simp [List.getD_eq_getElem?_getD, List.getElem?_append_left h]
theorem getD_append_right {a b : List Str} {i : Nat} : (a ++ b).getD (a.length + i) [] = b.getD i [] := by
  simp [List.getD_eq_getElem?_getD, List.getElem?_append_right]
theorem diff_append (a b : List Str) : diff (a ++ b) = (fresh [] a && fresh a b) := by
  unfold diff fresh
  rw [List.length_append, List.range_add, List.all_append, List.all_map]
  congr 1
  · rw [Bool.eq_iff_iff, List.all_eq_true, List.all_eq_true]
    constructor <;>
    · intro h i hi
      have hl : i < a.length := by simpa using hi
      have := h i hi
      unfold okAt at *
      rw [getD_append_left hl, List.take_append_of_le_length (by omega)] at *
      simpa using this
  · have key : ∀ i, i < b.length → (nameOk ((a ++ b).getD (a.length + i) []) && !((a ++ b).take (a.length + i)).contains ((a ++ b).getD (a.length + i) [])) = okAt a b i := by
      intro i hi
      unfold okAt
      rw [getD_append_right, List.take_append, List.take_of_length_le (show a.length ≤ a.length + i by omega), show a.length + i - a.length = i by omega, Bool.and_assoc]
      congr 1
      rw [Bool.eq_iff_iff]
      simp
      exact And.comm
    rw [Bool.eq_iff_iff, List.all_eq_true, List.all_eq_true]
    constructor
    · intro h i hi
      rw [← key i (by simpa using hi)]; exact h i hi
    · intro h i hi
      exact (key i (by simpa using hi)).trans (h i hi)

/-! ### what definitions name -/
theorem idxFrom_idxN {s : Str} : ∀ {l : List Str} {k : Nat}, s ∈ l → idxFrom l s k = ((k + idxN l s : Nat) : Int)
  | [], _, h => by cases h
  | x :: r, k, h => by
    unfold idxFrom idxN
    rw [List.findIdx?_cons]
    by_cases hx : (x == s) = true
    · rw [if_pos hx, if_pos (by rw [idxFrom_sym]; exact hx)]; rfl
    · have hx' : ¬ (s == x) = true := by rw [idxFrom_sym]; exact hx
      have hs : s ∈ r := by
        rcases List.mem_cons.1 h with h | h
        · exact absurd (by rw [h]; simp) hx
        · exact h
      rw [if_neg hx, if_neg hx', idxFrom_idxN hs]
      have := findIdx_contains s r
      have hc : r.contains s = true := by simpa using hs
      rw [hc] at this
      unfold idxN
      cases hf : r.findIdx? fun x => s == x with
      | none => rw [hf] at this; cases this
      | some j => simp; omega
theorem idxN_lt {s : Str} {l : List Str} (h : s ∈ l) : idxN l s < l.length := by
  have := findIdx_contains s l
  have hc : l.contains s = true := by simpa using h
  rw [hc] at this
  unfold idxN
  cases hf : l.findIdx? fun x => s == x with
  | none => rw [hf] at this; cases this
  | some j => exact findIdx_lt hf
theorem Pgm.Good.tos {p : Pgm} (h : p.Good) : Tos p (tosR p) := by
  have hl : (tosR p).length = p.defs.length := h.steps.2.1
  have hnl : (defNames p).length = p.defs.length := by have := h.defs; simp [defNames]; omega
  refine ⟨hl, fun i d hd => ?_, fun i d hd k hk => ?_⟩
  · unfold tosR stepsR
    rw [List.getD_eq_getElem?_getD, List.map_map, List.getElem?_map, hd]
    simp only [Option.map_some, Option.getD_some, Function.comp, stepsL, stepsN, List.map_map]
    apply List.map_congr_left
    intro x hx
    rw [List.mem_filter] at hx
    have := h.names d (List.mem_of_getElem? hd) x hx.1 hx.2
    simp only [Function.comp]
    rw [idxFrom_idxN this]
    omega
  · simp only [stepsN, List.mem_map, List.mem_filter] at hk
    obtain ⟨x, ⟨hx, hn⟩, rfl⟩ := hk
    rw [hl, ← hnl]
    exact idxN_lt (h.names d (List.mem_of_getElem? hd) x hx hn)

/-! ### rings, and what reaches itself -/
theorem at2_reach {tos : List (List Nat)} {i j : Nat} (hi : i < tos.length) (hj : j < tos.length) : at2 (reachR tos) i j = reachB tos i j := by
  unfold at2 reachR reachRow
  simp [List.getD_eq_getElem?_getD, hi, hj]
theorem inRing_iff {tos : List (List Nat)} {i j : Nat} (hi : i < tos.length) (hj : j < tos.length) : inRing (reachR tos) i j = true ↔ j = i ∨ (Reach tos i j ∧ Reach tos j i) := by
  unfold inRing
  rw [at2_reach hi hj, at2_reach hj hi]
  simp [reachB_iff]
theorem mem_ringTo {tos : List (List Nat)} {i j : Nat} (hi : i < tos.length) : j ∈ ringTo (reachR tos) i tos.length ↔ j < tos.length ∧ (j = i ∨ (Reach tos i j ∧ Reach tos j i)) := by
  unfold ringTo
  rw [List.mem_filter, List.mem_range]
  constructor
  · intro ⟨h1, h2⟩; exact ⟨h1, (inRing_iff hi h1).1 h2⟩
  · intro ⟨h1, h2⟩; exact ⟨h1, (inRing_iff hi h1).2 h2⟩
theorem ringTo_same {tos : List (List Nat)} {i j : Nat} (hi : i < tos.length) (hj : j < tos.length) (h1 : Reach tos i j) (h2 : Reach tos j i) : ringTo (reachR tos) i tos.length = ringTo (reachR tos) j tos.length := by
  unfold ringTo
  apply List.filter_congr
  intro k hk
  rw [List.mem_range] at hk
  rw [Bool.eq_iff_iff, inRing_iff hi hk, inRing_iff hj hk]
  constructor
  · rintro (rfl | ⟨a, b⟩)
    · exact .inr ⟨h2, h1⟩
    · exact .inr ⟨h2.trans a, b.trans h1⟩
  · rintro (rfl | ⟨a, b⟩)
    · exact .inr ⟨h1, h2⟩
    · exact .inr ⟨h1.trans a, b.trans h2⟩
/-- What reaches itself stands in a ring, and nothing else. -/
theorem rings_mem {tos : List (List Nat)} {k : Nat} : (∃ r ∈ ringsR (reachR tos), k ∈ r) ↔ k < tos.length ∧ Reach tos k k := by
  have hlen := reachR_len tos
  unfold ringsR ringsTo
  rw [hlen]
  constructor
  · rintro ⟨r, hr, hk⟩
    rw [List.mem_map] at hr
    obtain ⟨i, hi, rfl⟩ := hr
    rw [List.mem_filter, List.mem_range] at hi
    obtain ⟨hi, his⟩ := hi
    unfold ringIs at his
    rw [Bool.and_eq_true, at2_reach hi hi, reachB_iff] at his
    obtain ⟨h1, h2⟩ := (mem_ringTo hi).1 hk
    refine ⟨h1, ?_⟩
    rcases h2 with rfl | ⟨a, b⟩
    · exact his.1
    · exact b.trans a
  · rintro ⟨hk, hr⟩
    have hmem : k ∈ ringTo (reachR tos) k tos.length := (mem_ringTo hk).2 ⟨hk, .inl rfl⟩
    cases hc : ringTo (reachR tos) k tos.length with
    | nil => rw [hc] at hmem; cases hmem
    | cons i r =>
      have hi : i ∈ ringTo (reachR tos) k tos.length := by rw [hc]; simp
      obtain ⟨h1, h2⟩ := (mem_ringTo hk).1 hi
      have h3 : Reach tos k i ∧ Reach tos i k := by
        rcases h2 with rfl | h2
        · exact ⟨hr, hr⟩
        · exact h2
      have hs := ringTo_same hk h1 h3.1 h3.2
      refine ⟨ringTo (reachR tos) i tos.length, ?_, by rw [← hs]; exact hmem⟩
      rw [List.mem_map]
      refine ⟨i, ?_, rfl⟩
      rw [List.mem_filter, List.mem_range]
      refine ⟨h1, ?_⟩
      unfold ringIs
      rw [hlen, at2_reach h1 h1, ← hs, hc]
      simp [reachB_iff.2 (h3.2.trans h3.1)]
theorem progR_eq {p : Pgm} (hc : 0 ≤ countR p) : progR p = true ↔ ∀ i, i < p.defs.length → Reach (tosR p) i i → foreAt p.defs i = false := by
  have hg := countR_good hc
  have hl : (tosR p).length = p.defs.length := hg.steps.2.1
  unfold progR ringsOf
  rw [if_neg (by omega), List.all_eq_true]
  constructor
  · intro h i hi hr
    obtain ⟨r, h1, h2⟩ := rings_mem.2 ⟨by rw [hl]; exact hi, hr⟩
    have := List.all_eq_true.1 (h r h1) i h2
    simpa using this
  · intro h r hr
    rw [List.all_eq_true]
    intro k hk
    obtain ⟨h1, h2⟩ := rings_mem.1 ⟨r, hr, hk⟩
    rw [h k (by rw [← hl]; exact h1) h2]; rfl
end Go.Abs

/- Programs that are looked at: which ones are formed. -/
open Go Go.Abs
namespace Go.Abs
set_option maxRecDepth 100000
set_option maxHeartbeats 4000000
def ty20 : TyI := { d := TyD.ifc, sz := 1, bytes := 16, zero := AV.imm IV.niliface }
instance tyis20 : TyIs CC 20 ty20 := ⟨by kernel_rfl⟩
def ty115 : TyI := { d := TyD.st [], sz := 0, bytes := 0, zero := AV.imm (IV.agg []) }
instance tyis115 : TyIs CC 115 ty115 := ⟨by kernel_rfl⟩
instance fnis54 : FnIs CC 54 := ⟨rfl, fun _ => rfl⟩

theorem cal85n {rb nx : Nat} {G : Nat → Obj} : CalD CC 85 [.ptr rb 0] none G nx fun _ G' nx' => G' = G ∧ nx ≤ nx' := by
  refine CalD.of (fn := Go.Proofs.Try.f85) (by kernel_rfl) rfl rfl rfl ?_
  refine AN ?_
  refine R.op0 O.recoverN rfl ?_
  refine AN ?_
  refine R.op0 (O.ifcNil rfl rfl rfl rfl) rfl ?_
  refine AN ?_
  exact W.skipFinDf ⟨rfl, by omega⟩
theorem cal85p {rb nx : Nat} {G : Nat → Obj} {u : AV} (hG : G rb = .box [u] false) (hr : rb < nx) : CalD CC 85 [.ptr rb 0] (some unf) G nx fun x G' _ => x = true ∧ G' rb = .box [.imm .nilp] false := by
  refine CalD.of (fn := Go.Proofs.Try.f85) (by kernel_rfl) rfl rfl rfl ?_
  refine AN ?_
  refine R.recover rfl ?_
  refine AN ?_
  refine R.op0 (O.ifcSome rfl rfl rfl) rfl ?_
  refine AN ?_
  refine R.op0 (O.typeIs rfl ⟨(fun h => by cases h), (fun h => by cases h)⟩) rfl ?_
  refine AN ?_
  exact W.skipFinDf ⟨rfl, at_upd⟩

/-- What looking at a program gives. -/
noncomputable def lookedIV (p : Pgm) : IV := if progR p then scopeIV p ((p.defs.length - 1 : Nat) : Int) (countR p) else .nilp

theorem ret54 (p : Pgm) (hp : p.Fits) : Ret CC 54 [p.iv] (lookedIV p) := by
  refine Cal.ret ?_
  have hsl : p.srcs.length ≤ 9223372036854775807 := hp.srcs
  have hdl : p.defs.length ≤ 9223372036854775807 := hp.defs
  have hdn : defNames p = (p.defs.take 7).map Dfn.name := rfl
  generalize hres : lookedIV p = res
  have hbad : progR p = false → res = .nilp := fun h => by rw [← hres]; unfold lookedIV; rw [h]; rfl
  have hgood : progR p = true → res = scopeIV p ((p.defs.length - 1 : Nat) : Int) (countR p) := fun h => by rw [← hres]; unfold lookedIV; rw [h]; rfl
  clear hres
  refine Cal.ofD (fn := Go.Proofs.Try.f54) (by kernel_rfl) rfl rfl ?_
  obtain ⟨srcs, defs⟩ := p
  simp only at hsl hdl
  have hsm : (srcs.map sv).length = srcs.length := List.length_map ..
  have hdm : (defs.map Dfn.iv).length = defs.length := List.length_map ..
  refine AN ?_
  refine R.defer rfl rfl rfl rfl ?_
  refine R.done ?_
  have bad : progR ⟨srcs, defs⟩ = false → ∀ {G : Nat → Obj} {nx : Nat} {l : Env} {u : AV}, look l 2 = some (.ptr 1 0) → G 1 = .box [u] false → 2 ≤ nx → ∀ t', Agree t' l → finD CC Go.Proofs.Try.f54.results.toList (fun v G x => ∃ ids, peek G pkDepth v = some (res, ids)) (.pan unf ⟨t', G, nx, [(mkFn (.func 85) [.ptr (0 + 1) 0], [])], .no⟩) := by
    intro h G nx l u h1 h2 h3
    refine panD rfl rfl h1 rfl ?_
    obtain ⟨n, v, m', x, G', nx', g1, g2, g3⟩ := cal85p h2 (show 1 < nx by omega)
    exact ⟨n, v, m', x, G', nx', g1, g2, _, _, g3, [], by rw [hbad h]; rfl⟩
  have hneg : countR ⟨srcs, defs⟩ < 0 → progR ⟨srcs, defs⟩ = false := fun h => by unfold progR; rw [if_pos h]
  have hlen : (srcs.length < 1 ∨ 4 < srcs.length ∨ 6 < defs.length) → progR ⟨srcs, defs⟩ = false := fun h => hneg (by unfold countR; rw [if_pos h]; decide)
  have hr87 := ret87
  rcases Bool.eq_false_or_eq_true (decide (((srcs.map sv).length : Int) > 0)) with hA | hA
  rotate_left
  · have hA' := of_decide_eq_false hA
    refine AN ?_
    exact R.callPan rfl rfl pan86 (bad (hlen (by omega)) rfl rfl (by omega))
  rcases Bool.eq_false_or_eq_true (decide (((srcs.map sv).length : Int) ≤ 4)) with hB | hB
  rotate_left
  · have hB' := of_decide_eq_false hB
    refine AN ?_
    exact R.callPan rfl rfl pan86 (bad (hlen (by omega)) rfl rfl (by omega))
  rcases Bool.eq_false_or_eq_true (decide (((defs.map Dfn.iv).length : Int) ≤ 6)) with hC | hC
  rotate_left
  · have hC' := of_decide_eq_false hC
    refine AN ?_
    exact R.callPan rfl rfl (panM hC) (bad (hlen (by omega)) rfl rfl (by omega))
  have hA' := of_decide_eq_true hA
  have hB' := of_decide_eq_true hB
  have hC' := of_decide_eq_true hC
  have hr := retM hC
  have hdn : defNames ⟨srcs, defs⟩ = defs.map Dfn.name := by rw [hdn]; show (defs.take 7).map _ = _; rw [List.take_of_length_le (by omega)]
  refine A1 ?_
  refine A1 ?_
  have hcr : countR ⟨srcs, defs⟩ = if diff (srcs ++ defs.map Dfn.name) then countL srcs (defs.map Dfn.name) defs 0 0 else -1 := by
    unfold countR; rw [if_neg (show ¬ (srcs.length < 1 ∨ 4 < srcs.length ∨ 6 < defs.length) by omega), hdn]
  rw [diff_append] at hcr
  obtain ⟨f1, f2⟩ := ret88 (l := srcs) others_nil hsl hp.src
  rcases Bool.eq_false_or_eq_true (fresh [] srcs) with hF | hF
  rotate_left
  · refine W.seqR ?_
    refine W.drawXN ?_
    refine AX ?_
    exact DX.callPan rfl rfl (f2 hF) rfl (by kernel_rfl) (bad (hneg (by rw [hcr, hF]; simp)) rfl rfl (by omega))
  have hr88 := f1 hF
  refine W.seqR ?_
  refine W.drawN ?_
  refine AD ?_
  refine D.done (by kernel_rfl) ?_
  have hr75 := ret75 defs (by omega)
  obtain ⟨g1, g2⟩ := ret88 (l := defs.map Dfn.name) (others_num srcs) (by rw [List.length_map]; omega) (fun s hs => by obtain ⟨d, hd, rfl⟩ := List.mem_map.1 hs; exact hp.name d hd)
  rcases Bool.eq_false_or_eq_true (fresh srcs (defs.map Dfn.name)) with hG | hG
  rotate_left
  · refine W.seqR ?_
    refine W.drawXN ?_
    refine AX ?_
    exact DX.callPan rfl rfl (g2 hG) rfl (by kernel_rfl) (bad (hneg (by rw [hcr, hF, hG]; simp)) rfl rfl (by omega))
  have hr88' := g1 hG
  refine W.seqR ?_
  refine W.drawN ?_
  refine AD ?_
  refine D.done (by kernel_rfl) ?_
  rw [hF, hG] at hcr
  simp only [Bool.and_self, if_true] at hcr
  have hnm : (defs.map Dfn.name).length = defs.length := List.length_map ..
  have hfor : ∀ i d, defs[i]? = some d → foreAt defs i = (allE d.exp).any Exp.fore := fun i d h => by unfold foreAt; rw [h]; rfl
  have hpq : 0 ≤ countR ⟨srcs, defs⟩ → (progR ⟨srcs, defs⟩ = true ↔ ∀ i, i < defs.length → Reach (tosR ⟨srcs, defs⟩) i i → foreAt defs i = false) := fun h => progR_eq h
  have hgd : 0 ≤ countR ⟨srcs, defs⟩ → Pgm.Good ⟨srcs, defs⟩ := fun h => countR_good h
  have hfit := hp.exp
  simp only at hfit
  have hsc : ∀ n : Int, scopeIV ⟨srcs, defs⟩ ((defs.length - 1 : Nat) : Int) n = .fptr [numIV srcs, numIV (defs.map Dfn.name), shapesIV, .int .i64 ((defs.length - 1 : Nat) : Int), .int .i64 n] 0 := fun n => by unfold scopeIV; rw [hdn]
  generalize hnames : defs.map Dfn.name = names at *
  refine AN ?_
  refine W.loop (X := Nat × Int) (fun x => [(1, .ptr 0 0), (2, .ptr 1 0), (50, .imm (.lst (defs.map Dfn.iv))), (51, .imm (.int .i64 (defs.map Dfn.iv).length)), (52, .imm (.int .i64 x.1))])
    (fun x nx G => 24 ≤ nx ∧ G 0 = .box [.imm (.lst (srcs.map sv)), .imm (.lst (defs.map Dfn.iv))] false ∧ G 1 = .box [.ptr 23 0] false ∧ G 23 = .box [.imm (numIV srcs), .imm (numIV names), .imm shapesIV, .imm (.int .i64 ((x.1 - 1 : Nat) : Int)), .imm (.int .i64 x.2)] false ∧
      x.1 ≤ defs.length ∧ (0 ≤ x.2 ∧ x.2 ≤ 60) ∧ countR ⟨srcs, defs⟩ = countL srcs names (defs.drop x.1) x.1 x.2)
    (fun x => defs.length - x.1) (0, 0) .auto ⟨by omega, rfl, rfl, rfl, Nat.zero_le _, by decide, hcr⟩ ?_
  clear f1 f2 g1 g2 hr88 hr88' hr75 hr87 hcr hlen hA hB hC hF hG hr
  rintro ⟨i, m⟩ nx G ⟨hnx, hG0, hG1, hG2, hi, hm, he⟩
  dsimp only at hG2 hi hm he ⊢
  rcases Bool.eq_false_or_eq_true (decide ((i : Int) < ((defs.map Dfn.iv).length : Int))) with hc | hc
  · have hlt : i < defs.length := by have := of_decide_eq_true hc; omega
    obtain ⟨d, hx⟩ := at_lt hlt
    have hxi := at_map Dfn.iv hx
    have hdc := d.cells_len
    have hmu : defs.length - (i + 1) < defs.length - i := by omega
    have hcal := fun nx G h1 h2 => @cal89 23 srcs names i d.exp (hfit d (List.mem_of_getElem? hx)) nx G m 1 h1 h2 hm (by omega)
    have hle := (expR_le srcs names i d.exp 1 (60 - m)).2
    rw [countL_drop srcs names hx] at he
    obtain ⟨nm, ⟨o', s', n', f', c', k'⟩⟩ := d
    refine AN ?_
    refine R.callBP rfl rfl rfl rfl rfl ((hcal _ _ at_upd (by omega)).mono fun r hr => ?_)
    cases r with
    | pan u G' nx' =>
      obtain ⟨rfl, g1, g2, g3⟩ := hr
      rw [if_pos g1] at he
      exact bad (hneg (by rw [he]; decide)) rfl ((g3 1 (by omega) (by decide)).trans at_upd) (by omega)
    | ret v G' nx' =>
      obtain ⟨rfl, g1, g2, g3, g4⟩ := hr
      rw [if_neg (by omega)] at he
      refine AN ?_
      exact W.skipLop (i + 1, m + expR srcs names i (.mk o' s' n' f' c' k') 1 (60 - m)) hmu .auto ⟨by omega, (g4 0 (by omega) (by decide)).trans at_upd, (g4 1 (by omega) (by decide)).trans at_upd, g2, hlt, by have := hle g1; dsimp only at *; omega, he⟩
  have hge : defs.length ≤ i := by have := of_decide_eq_false hc; omega
  have hil : i = defs.length := by omega
  subst hil
  rw [List.drop_eq_nil_of_le hge, countL] at he
  have h0 : 0 ≤ countR ⟨srcs, defs⟩ := by omega
  have hpq := hpq h0
  have hgd := hgd h0
  have htos := hgd.tos
  have htl : (tosR ⟨srcs, defs⟩).length = defs.length := htos.len
  clear hneg
  have hgood2 : (∀ i, i < defs.length → Reach (tosR ⟨srcs, defs⟩) i i → foreAt defs i = false) → res = .fptr [numIV srcs, numIV names, shapesIV, .int .i64 ((defs.length - 1 : Nat) : Int), .int .i64 m] 0 := fun h => by
    rw [hgood (hpq.2 h), ← hsc, he]
  have hbad2 : ∀ i, i < defs.length → Reach (tosR ⟨srcs, defs⟩) i i → foreAt defs i = true → progR ⟨srcs, defs⟩ = false := fun i h1 h2 h3 => by
    rw [Bool.eq_false_iff]
    intro h
    rw [hpq.1 h i h1 h2] at h3
    cases h3
  have hreach := fun (d : Nat) (h : d < defs.length) => ret47 hp htos ((defs.length - 1 : Nat) : Int) m (d := d) (by rw [htl]; exact h)
  rw [hsc] at hreach
  generalize tosR ⟨srcs, defs⟩ = tos at *
  refine AN ?_
  refine W.loop (X := Nat) (fun i => [(1, .ptr 0 0), (2, .ptr 1 0), (67, .imm (.lst (defs.map Dfn.iv))), (68, .imm (.int .i64 (defs.map Dfn.iv).length)), (69, .imm (.int .i64 i))])
    (fun i nx G => 24 ≤ nx ∧ G 0 = .box [.imm (.lst (srcs.map sv)), .imm (.lst (defs.map Dfn.iv))] false ∧ G 1 = .box [.ptr 23 0] false ∧ (∃ fr, G 23 = .box ([numIV srcs, numIV names, shapesIV, .int .i64 ((defs.length - 1 : Nat) : Int), .int .i64 m].map .imm) fr) ∧
      i ≤ defs.length ∧ ∀ j, j < i → Reach tos j j → foreAt defs j = false)
    (fun i => defs.length - i) 0 .auto ⟨by omega, hG0, hG1, ⟨false, hG2⟩, Nat.zero_le _, fun j h => by omega⟩ ?_
  clear hG0 hG1 hG2 hnx hi hc hge nx G he
  rintro i nx G ⟨hnx, hG0, hG1, ⟨fr, hG2⟩, hi, hall⟩
  rcases Bool.eq_false_or_eq_true (decide ((i : Int) < ((defs.map Dfn.iv).length : Int))) with hc | hc
  · have hlt : i < defs.length := by have := of_decide_eq_true hc; omega
    obtain ⟨d, hx⟩ := at_lt hlt
    have hxi := at_map Dfn.iv hx
    have hdc := d.cells_len
    have hmu : defs.length - (i + 1) < defs.length - i := by omega
    have hf := hfit d (List.mem_of_getElem? hx)
    have hfo := hfor i d hx
    obtain ⟨out, ho1, ho2, ho3, hr47⟩ := hreach i hlt
    have hset := setLook out i
    have hr49 := ret49 d.exp
    obtain ⟨nm, ⟨o', s', n', f', c', k'⟩⟩ := d
    refine AN ?_
    refine R.opU (O.callFz (ids := [23]) rfl ?_ hr47 rfl) rfl ?_
    · exact peeks_cons (vs := [(Pgm.mk srcs defs).iv, natIV i]) (peek_box (fr := fr) (by exact at_upd))
    refine R.gen' (fun G2 => G2 0 = .box [.imm (.lst (srcs.map sv)), .imm (.lst (defs.map Dfn.iv))] false ∧ G2 1 = .box [.ptr 23 0] false ∧ G2 23 = .box ([numIV srcs, numIV names, shapesIV, .int .i64 ((defs.length - 1 : Nat) : Int), .int .i64 m].map .imm) true ∧
      G2 (nx + 1 + 3) = .box [.imm (sv nm), .imm (.int .i64 o'), .imm (sv s'), .imm (.int .i64 n'), .imm (.int .i64 f'), .imm (.lst (Trm.ivs c')), .imm (.lst (Exp.ivs k'))] false) ⟨?_, ?_, frz1 (fr := fr) at_upd, ?_⟩ ?_
    iterate 3 exact (frz1_ne (by omega)).trans at_upd
    clear hG0 hG1 hG2 G
    rintro G ⟨hG0, hG1, hG2, hG3⟩
    have hmem : out.contains i = true → Reach tos i i := fun h => (ho3 i).1 (by simpa using h)
    have hnmem : out.contains i = false → ¬ Reach tos i i := fun h hr => by
      have := (ho3 i).2 hr
      simp [this] at h
    rcases Bool.eq_false_or_eq_true (out.contains i) with hC | hC
    · have hri := hmem hC
      refine AN ?_
      refine W.nodes _ hf (fun k G1 => (∀ o, o < nx → G1 o = G o) ∧ ((allE (.mk o' s' n' f' c' k')).take k).any Exp.fore = false) (fun _ => False) (fun u G1 nx1 => u = unf ∧ nx ≤ nx1 ∧ (∀ o, o < nx → G1 o = G o) ∧ foreAt defs i = true)
        rfl rfl rfl rfl rfl ?_ ?_ ?_ ?_ ?_ ?_ ?_
      · rintro k G1 G2 ⟨h1, h2⟩ h3
        exact ⟨fun o h => (h3 o (by omega)).trans (h1 o h), h2⟩
      · intro _ _ h; exact h.elim
      · exact ⟨fun _ _ => rfl, rfl⟩
      · rintro q k x G1 nx1 lp0 lp1 Φr hq hxa hn ⟨h1, h2⟩ hlp next _ hpn
        have htk := fun h => any_take (p := Exp.fore) hxa h2 h
        have hany := fun h => any_at (p := Exp.fore) hxa h
        obtain ⟨op', name', m', fold', calcs', kids'⟩ := x
        refine W.regionN ?_
        refine AQ ?_
        refine R.doneAstQ at_upd ?_
        refine W.gen' (fun G2 => G2 (nx1 + 0) = .box [.imm (.int .i64 op'), .imm (sv name'), .imm (.int .i64 m'), .imm (.int .i64 fold'), .imm (.lst (Trm.ivs calcs')), .imm (.lst (Exp.ivs kids'))] false ∧ G2 q = lp1 ∧ ∀ o, o < nx1 → o ≠ q → G2 o = G1 o) ⟨at_upd, at_upd, fun o _ _ => at_upd⟩ ?_
        rintro G2 ⟨hbx, hlp2, hfr2⟩
        have hfr3 : ∀ o, o < nx → G2 o = G o := fun o h => (hfr2 o (by omega) (by omega)).trans (h1 o h)
        have hfr4 : ∀ o, q + 2 ≤ o → o < nx1 → G2 o = G1 o := fun o h h' => hfr2 o h' (by omega)
        rcases Bool.eq_false_or_eq_true (op' != 14) with hP | hP
        · rcases Bool.eq_false_or_eq_true (op' != 7) with hQ | hQ
          · have hr := retM (b := true) rfl
            refine AN ?_
            refine next (by omega) hfr4 ⟨hfr3, htk ?_⟩ hlp2
            show (op' == 14 || (op' == 7 && decide (m' < 0))) = false
            simp at hP hQ
            simp [hP, hQ]
          · rcases Bool.eq_false_or_eq_true (decide (m' ≥ 0)) with hR | hR
            · have hr := retM hR
              refine AN ?_
              refine next (by omega) hfr4 ⟨hfr3, htk ?_⟩ hlp2
              show (op' == 14 || (op' == 7 && decide (m' < 0))) = false
              simp at hP hR
              simp [hP, hR]
            · refine AN ?_
              refine R.callPan rfl rfl (panM hR) (hpn ⟨rfl, by omega, hfr3, ?_⟩)
              rw [hfo]
              apply hany
              show (op' == 14 || (op' == 7 && decide (m' < 0))) = true
              simp at hQ hR
              simp [hQ, hR]
        · refine AN ?_
          refine R.callPan rfl rfl pan86 (hpn ⟨rfl, by omega, hfr3, ?_⟩)
          rw [hfo]
          apply hany
          show (op' == 14 || (op' == 7 && decide (m' < 0))) = true
          simp at hP
          simp [hP]
      · rintro G1 nx1 ⟨h1, h2⟩ hn
        rw [List.take_length] at h2
        refine AN ?_
        refine W.skipLop (i + 1) hmu .auto ⟨by omega, (h1 0 (by omega)).trans hG0, (h1 1 (by omega)).trans hG1, ⟨true, (h1 23 (by omega)).trans hG2⟩, hlt, fun j h3 h4 => ?_⟩
        by_cases hj : j = i
        · subst hj; rw [hfo]; exact h2
        · exact hall j (by omega) h4
      · intro _ _ h; exact h.elim
      · rintro u G1 nx1 ⟨rfl, h1, h2, h3⟩
        exact bad (hbad2 i hlt hri h3) rfl ((h2 1 (by omega)).trans hG1) (by omega)
    · have hnr := hnmem hC
      refine AN ?_
      refine W.skipLop (i + 1) hmu .auto ⟨by omega, hG0, hG1, ⟨true, hG2⟩, hlt, fun j h3 h4 => ?_⟩
      by_cases hj : j = i
      · subst hj; exact absurd h4 hnr
      · exact hall j (by omega) h4
  · have hge : defs.length ≤ i := by have := of_decide_eq_false hc; omega
    have hres := hgood2 fun j h1 h2 => hall j (by omega) h2
    refine AN ?_
    refine W.retFinD rfl rfl rfl rfl ?_
    obtain ⟨n, v, m', x, G', nx', g1, rfl, g3⟩ := cal85n (rb := 1) (nx := nx + 1 + 2) (G := upd G 1 (.box [.ptr 23 0] false))
    refine ⟨n, v, m', x, _, nx', g1, _, _, upd_same _ _ _, [23], ?_⟩
    rw [hres]
    exact peek_box (fr := fr) at_upd
end Go.Abs

/- The rows of the chapter's examples, reckoned. -/
open Go Go.Abs
namespace Go.Abs
instance fnis14 : FnIs CC 14 := ⟨rfl, fun _ => rfl⟩
theorem ret14 : Ret CC 14 [] (.bool true) := Ret.reckon (n := 60) (by kernel_rfl)
end Go.Abs

/- TermChecks: the law. -/
open Go Go.Abs
namespace Go.Abs
set_option maxRecDepth 100000
set_option maxHeartbeats 4000000
instance fnis27 : FnIs CC 27 := ⟨rfl, fun _ => rfl⟩
instance fnis29 : FnIs CC 29 := ⟨rfl, fun _ => rfl⟩
instance fnis46 : FnIs CC 46 := ⟨rfl, fun _ => rfl⟩

theorem ret27 (p : Pgm) (hp : p.Fits) : Ret CC 27 [p.iv] (.tup [.int .i64 (if progR p then countR p else 0), .int .i64 (if progR p then 0 else 2)]) := by
  have hr := ret54 p hp
  unfold lookedIV at hr
  generalize progR p = b at *
  generalize countR p = n at *
  generalize ((p.defs.length - 1 : Nat) : Int) = m at *
  obtain ⟨srcs, defs⟩ := p
  refine Ret.of (fn := Go.Proofs.Try.f27) (by kernel_rfl) rfl rfl ?_
  cases b with
  | true =>
    rw [if_pos rfl] at hr
    refine AA ?_
    exact W.retFin2 rfl rfl ⟨[], rfl⟩
  | false =>
    rw [if_neg (by decide)] at hr
    refine AA ?_
    exact W.retFin2 rfl rfl ⟨[], rfl⟩
theorem ret29 (p : Pgm) (hp : p.Fits) : Ret CC 29 [p.iv] (.int .i64 (if progR p then 0 else 2)) := by
  have hr := ret54 p hp
  unfold lookedIV at hr
  generalize progR p = b at *
  generalize countR p = n at *
  generalize ((p.defs.length - 1 : Nat) : Int) = m at *
  obtain ⟨srcs, defs⟩ := p
  refine Ret.of (fn := Go.Proofs.Try.f29) (by kernel_rfl) rfl rfl ?_
  cases b with
  | true =>
    rw [if_pos rfl] at hr
    refine AA ?_
    exact W.retFin1 rfl ⟨[], rfl⟩
  | false =>
    rw [if_neg (by decide)] at hr
    refine AA ?_
    exact W.retFin1 rfl ⟨[], rfl⟩
theorem ret7 (p : Pgm) (hp : p.Fits) : Ret CC 7 [p.iv] (.bool true) := by
  have h27 := ret27 p hp
  have h28 := ret28 p hp
  have h29 := ret29 p hp
  have h30 := ret30 p hp
  have h14 := ret14
  generalize (if progR p then countR p else 0) = n at *
  generalize (if progR p then (0 : Int) else 2) = e at *
  have b1 : (n == n) = true := by simp
  have b2 : (e == e) = true := by simp
  obtain ⟨srcs, defs⟩ := p
  refine Ret.of (fn := Go.Proofs.Try.f7) (by kernel_rfl) rfl rfl ?_
  refine AA ?_
  exact W.retFin1 rfl ⟨[], rfl⟩
end Go.Abs
