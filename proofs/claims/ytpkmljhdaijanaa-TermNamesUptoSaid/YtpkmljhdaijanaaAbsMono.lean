/- The abstract interpreter: what runs, runs alike with more to spend. -/
import Derived.Test.YtpkmljhdaijanaaAbsRun
namespace Go.Abs

structure Low.le (L L' : Low) : Prop where
  call : ∀ f a pk G nx r, L.call f a pk G nx = some r → L'.call f a pk G nx = some r
  round : ∀ q a G nx r, L.round q a G nx = some r → L'.round q a G nx = some r

variable {C : Cfg} {L L' : Low}

theorem callA_mono (h : L.le L') {id : Nat} {s : St} {f : FuncId} {args : List AV} {e : Ef} (he : callA C L id s f args = some e) : callA C L' id s f args = some e := by
  unfold callA at he ⊢
  split
  · rename_i hb
    rw [if_pos hb] at he
    cases hc : L.call f args .no s.G s.nx with
    | none => rw [hc] at he; cases he
    | some r => rw [h.call _ _ _ _ _ _ hc]; rw [hc] at he; exact he
  · rename_i hb
    rw [if_neg hb] at he
    split
    · rename_i hp; rw [hp] at he; exact he
    · rename_i ivs ids hp
      rw [hp] at he
      simp only at he
      split
      · rename_i ho; rw [ho] at he; exact he
      · rename_i ho; rw [ho] at he; exact he
      · rename_i ho
        rw [ho] at he
        simp only at he
        cases hc : L.call f (ivs.map .imm) .no (fun _ => .gone) 0 with
        | none => rw [hc] at he; cases he
        | some r => rw [h.call _ _ _ _ _ _ hc]; rw [hc] at he; exact he

theorem aCall_mono (h : L.le L') {id : Nat} {s : St} {g : AV} {args : List AV} {e : Ef} (he : aCall C L id s g args = some e) : aCall C L' id s g args = some e := by
  unfold aCall at he ⊢
  split
  · rename_i q
    simp only at he
    cases hc : L.round q args s.G s.nx with
    | none => rw [hc] at he; cases he
    | some r => rw [h.round _ _ _ _ _ hc]; rw [hc] at he; exact he
  · rename_i g hg
    split at he
    · exact absurd rfl (hg _)
    · split at he
      · exact callA_mono h he
      · cases he

theorem opA_mono (h : L.le L') {id : Nat} {s : St} {o : Op} {e : Ef} (he : opA C L id s o = some e) : opA C L' id s o = some e := by
  cases o with
  | call c =>
    unfold opA at he ⊢
    simp only at he ⊢
    split at he
    · rename_i hc; exact he
    · rename_i hc; exact aCall_mono h he
    · exact he
  | makeMap t r => cases r <;> exact he
  | slice t x lo hi m => cases m <;> exact he
  | _ => exact he

theorem stepA_mono (h : L.le L') {nt : Nat} {ops : Array Oper} {id : Nat} {o : Oper} {s : St} {x : Out} (he : stepA C L nt ops id o s = some x) : stepA C L' nt ops id o s = some x := by
  unfold stepA at he ⊢
  split
  · rename_i hw
    rw [hw] at he
    simp only at he
    cases ho : opA C L id s o.op with
    | none => rw [ho] at he; cases he
    | some e => rw [opA_mono h ho]; rw [ho] at he; exact he
  · rename_i hw; rw [hw] at he; exact he
  · rename_i hw; rw [hw] at he; exact he

theorem runA_mono (h : L.le L') {nt : Nat} {ops : Array Oper} {base : Nat} : ∀ (l : List Nat) (s : St) {x : Out}, runA C L nt ops base l s = some x → runA C L' nt ops base l s = some x
  | [], _, _, he => he
  | i :: r, s, x, he => by
    unfold runA at he ⊢
    split
    · rename_i ho; rw [ho] at he; exact runA_mono h r s he
    · rename_i o ho
      rw [ho] at he
      simp only at he
      cases hs : stepA C L nt ops (base + i) o s with
      | none => rw [hs] at he; cases he
      | some y =>
        rw [stepA_mono h hs]; rw [hs] at he
        cases y with
        | norm s' => exact runA_mono h r s' he
        | _ => exact he

theorem stepD_mono (h : L.le L') {nt : Nat} {ops : Array Oper} {base i : Nat} {o : Oper} {s : St} {x : St × Fp} (he : stepD C L nt ops base i o s = some x) : stepD C L' nt ops base i o s = some x := by
  unfold stepD at he ⊢
  split
  · rename_i hw
    rw [hw] at he
    simp only at he
    cases ho : opA C L (base + i) s o.op with
    | none => rw [ho] at he; cases he
    | some e => rw [opA_mono h ho]; rw [ho] at he; exact he
  · rename_i hw; rw [hw] at he; exact he
  · rename_i hw; rw [hw] at he; exact he

theorem runD_mono (h : L.le L') {nt : Nat} {ops : Array Oper} {base : Nat} : ∀ (l : List Nat) (s : St) {x : St × List Fp}, runD C L nt ops base l s = some x → runD C L' nt ops base l s = some x
  | [], _, _, he => he
  | i :: r, s, x, he => by
    unfold runD at he ⊢
    split
    · rename_i ho; rw [ho] at he; exact he
    · rename_i o ho
      rw [ho] at he
      simp only at he
      cases hs : stepD C L nt ops base i o s with
      | none => rw [hs] at he; cases he
      | some y =>
        rw [stepD_mono h hs]; rw [hs] at he
        simp only at he ⊢
        cases hr : runD C L nt ops base r y.1 with
        | none => rw [hr] at he; cases he
        | some z => rw [runD_mono h r y.1 hr]; rw [hr] at he; exact he

theorem stepX_mono (h : L.le L') {nt : Nat} {ops : Array Oper} {base i : Nat} {o : Oper} {s : St} {x : St × Fp × Option IV} (he : stepX C L nt ops base i o s = some x) : stepX C L' nt ops base i o s = some x := by
  unfold stepX at he ⊢
  split
  · rename_i hw
    rw [hw] at he
    simp only at he
    cases ho : opA C L (base + i) s o.op with
    | none => rw [ho] at he; cases he
    | some e => rw [opA_mono h ho]; rw [ho] at he; exact he
  · rename_i hw; rw [hw] at he; exact he
  · rename_i hw; rw [hw] at he; exact he

theorem runX_mono (h : L.le L') {nt : Nat} {ops : Array Oper} {base : Nat} : ∀ (l ps : List Nat) (s : St) {x : List (Fp × Option IV)}, runX C L nt ops base l ps s = some x → runX C L' nt ops base l ps s = some x
  | [], _, _, _, he => he
  | i :: r, ps, s, x, he => by
    unfold runX at he ⊢
    split
    · rename_i hp; rw [if_pos hp] at he; exact runX_mono h r ps s he
    · rename_i hp
      rw [if_neg hp] at he
      split
      · rename_i ho; rw [ho] at he; exact he
      · rename_i o ho
        rw [ho] at he
        simp only at he
        cases hs : stepX C L nt ops base i o s with
        | none => rw [hs] at he; cases he
        | some y =>
          obtain ⟨s1, f, v⟩ := y
          rw [stepX_mono h hs]; rw [hs] at he
          cases v with
          | none =>
            simp only at he ⊢
            cases hr : runX C L nt ops base r ps s1 with
            | none => rw [hr] at he; cases he
            | some z => rw [runX_mono h r ps s1 hr]; rw [hr] at he; exact he
          | some v =>
            simp only at he ⊢
            cases hr : runX C L nt ops base r (i :: ps) s1 with
            | none => rw [hr] at he; cases he
            | some z => rw [runX_mono h r (i :: ps) s1 hr]; rw [hr] at he; exact he

/-- What fails somewhere, does not run, however much there is to spend. -/
theorem runX_fails (h : L.le L') {nt : Nat} {ops : Array Oper} {base : Nat} : ∀ (l : List Nat) (s : St) {es : List (Fp × Option IV)}, runX C L nt ops base l [] s = some es → es.filterMap (·.2) ≠ [] → runD C L' nt ops base l s = none
  | [], _, es, he, hn => by simp [runX] at he; subst he; simp at hn
  | i :: r, s, es, he, hn => by
    unfold runX at he
    unfold runD
    simp only [List.any_nil, Bool.false_eq_true, if_false] at he
    cases ho : ops[i]? with
    | none => rfl
    | some o =>
      rw [ho] at he
      simp only at he ⊢
      cases hs : stepX C L nt ops base i o s with
      | none => rw [hs] at he; cases he
      | some y =>
        obtain ⟨s1, f, v⟩ := y
        rw [hs] at he
        have hx := stepX_mono h hs
        cases v with
        | none =>
          simp only at he
          have hd : stepD C L' nt ops base i o s = some (s1, f) := by
            unfold stepX at hx
            unfold stepD
            split at hx
            · split at hx
              · rename_i ho; rw [ho]; split at hx <;> simp_all
              · split at hx <;> simp at hx
              · cases hx
            · split at hx <;> simp_all
            · cases hx
          rw [hd]
          simp only
          cases hr : runX C L nt ops base r [] s1 with
          | none => rw [hr] at he; cases he
          | some z =>
            rw [hr] at he
            simp only [Option.some.injEq] at he
            subst he
            rw [runX_fails h r s1 hr (by simpa using hn)]
        | some v =>
          have hd : stepD C L' nt ops base i o s = none := by
            unfold stepX at hx
            unfold stepD
            split at hx
            · split at hx
              · split at hx <;> simp at hx
              · rename_i ho; rw [ho]
              · cases hx
            · split at hx <;> simp at hx
            · cases hx
          rw [hd]

theorem failA_mono (h : L.le L') {nt : Nat} {ops : Array Oper} {s : St} {x : Out} (he : failA C L nt ops s = some x) :
    runD C L' nt ops s.nx (List.range ops.size) { s with nx := s.nx + ops.size } = none ∧ failA C L' nt ops s = some x := by
  unfold failA at he
  split at he
  · rename_i es hes
    split at he
    · rename_i v r hv
      exact ⟨runX_fails h _ _ hes (by rw [hv]; simp), by unfold failA; rw [runX_mono h _ _ _ hes]; simp only [hv]; exact he⟩
    · cases he
  · cases he

theorem regionA_mono (h : L.le L') {nt : Nat} {ops : Array Oper} {draw : Bool} {s : St} {x : Out} (he : regionA C L nt ops draw s = some x) : regionA C L' nt ops draw s = some x := by
  unfold regionA at he ⊢
  split
  · rename_i hd
    rw [if_pos hd] at he
    split at he
    · rename_i hr; rw [runD_mono h _ _ hr]; exact he
    · obtain ⟨h1, h2⟩ := failA_mono h he
      rw [h1]; exact h2
  · rename_i hd
    rw [if_neg hd] at he
    exact runA_mono h _ _ he

theorem iter_mono {f g : St → Option Out} (h : ∀ s x, f s = some x → g s = some x) : ∀ (n m : Nat), n ≤ m → ∀ s x, iter f n s = some x → iter g m s = some x
  | 0, _, _, _, _, he => nomatch he
  | n + 1, 0, hl, _, _, _ => by omega
  | n + 1, m + 1, hl, s, x, he => by
    unfold iter at he ⊢
    cases hs : f s with
    | none => rw [hs] at he; cases he
    | some y =>
      rw [h _ _ hs]; rw [hs] at he
      cases y with
      | norm s' => exact iter_mono h n m (by omega) s' x he
      | _ => exact he

theorem rangeA_mono (h : L.le L') {fid nt : Nat} {f : AV} {params : List Nat} {assign body : Code} {s : St} {x : Out} (he : rangeA C L fid nt f params assign body s = some x) : rangeA C L' fid nt f params assign body s = some x := by
  unfold rangeA at he ⊢
  split
  · rename_i kf cap hf
    rw [hf] at he
    simp only at he
    split at he
    · rename_i hc; rw [callA_mono h hc]; exact he
    · rename_i hc; rw [callA_mono h hc]; exact he
    · cases he
  · rename_i hf
    split at he
    · exact absurd (by assumption) (hf _ _)
    · exact he

theorem code_mono (h : L.le L') {lf lf' : Nat} (hl : lf ≤ lf') {fid nt : Nat} : ∀ (c : Code) (s : St) (x : Out), code C L lf fid nt c s = some x → code C L' lf' fid nt c s = some x := by
  intro c
  induction c with
  | seq a b iha ihb =>
    intro s x he
    unfold code at he ⊢
    cases ha : code C L lf fid nt a s with
    | none => rw [ha] at he; cases he
    | some y =>
      rw [iha _ _ ha]; rw [ha] at he
      cases y with
      | norm s' => exact ihb _ _ he
      | _ => exact he
  | cond c t e iht ihe =>
    intro s x he
    unfold code at he ⊢
    split
    · rename_i b hb
      rw [hb] at he
      cases b with
      | true => exact iht _ _ he
      | false => exact ihe _ _ he
    · rename_i hb
      split at he
      · exact absurd (by assumption) (hb _)
      · cases he
  | block id b ih =>
    intro s x he
    unfold code at he ⊢
    cases hb : code C L lf fid nt b s with
    | none => rw [hb] at he; cases he
    | some y => rw [ih _ _ hb]; rw [hb] at he; exact he
  | loop b ih =>
    intro s x he
    unfold code at he ⊢
    exact iter_mono ih _ _ hl _ _ he
  | region _ ops draw => intro s x he; unfold code at he ⊢; exact regionA_mono h he
  | rangeFunc f params assign body _ _ =>
    intro s x he
    unfold code at he ⊢
    split
    · rename_i hp; rw [hp] at he; exact he
    · rename_i hp
      split at he
      · exact absurd (by assumption) hp
      · exact rangeA_mono h he
  | _ => intro s x he; first | exact he | (unfold code at he ⊢; exact he)

theorem leaveA_mono (h : L.le L') {rs : List ResultVar} : ∀ (ds : List (AV × List AV)) (m : Option IV) (s : St) {x : CR × Pk}, leaveA C L rs ds m s = some x → leaveA C L' rs ds m s = some x
  | [], none, _, _, he => he
  | [], some _, _, _, he => he
  | (g, as) :: ds, m, s, x, he => by
    unfold leaveA at he ⊢
    split
    · rename_i k cap hf
      rw [hf] at he
      simp only at he
      split at he
      · rename_i hc
        rw [h.call _ _ _ _ _ _ hc]
        exact leaveA_mono h ds _ _ he
      · cases he
    · rename_i hf
      split at he
      · exact absurd (by assumption) (hf _ _)
      · exact he

theorem callF_mono (h : L.le L') {lf lf' : Nat} (hl : lf ≤ lf') {f : FuncId} {args : List AV} {pk : Pk} {G : Nat → Obj} {nx : Nat} {x : CR × Pk} (he : callF C L lf f args pk G nx = some x) : callF C L' lf' f args pk G nx = some x := by
  unfold callF at he ⊢
  split
  · rename_i fn hf
    rw [hf] at he
    simp only at he
    split
    · rename_i b hb
      rw [hb] at he
      simp only at he
      split
      · rename_i hs
        rw [if_pos hs] at he
        cases hc : code C L lf f fn.ntmps b ⟨initT args, G, nx, [], pk⟩ with
        | none => rw [hc] at he; cases he
        | some y =>
          rw [code_mono h hl _ _ _ hc]; rw [hc] at he
          cases y with
          | norm s => exact leaveA_mono h _ _ _ he
          | ret s => exact leaveA_mono h _ _ _ he
          | pan v s => exact leaveA_mono h _ _ _ he
          | exit _ _ => exact he
      · rename_i hs; rw [if_neg hs] at he; exact he
    · rename_i hb; rw [hb] at he; exact he
  · rename_i hf; rw [hf] at he; exact he

theorem roundF_mono (h : L.le L') {lf lf' : Nat} (hl : lf ≤ lf') {q : Nat} {args : List AV} {G : Nat → Obj} {nx : Nat} {x : CR × Pk} (he : roundF C L lf q args G nx = some x) : roundF C L' lf' q args G nx = some x := by
  unfold roundF at he ⊢
  split
  · rename_i tmps nt params assign body fid e hq
    rw [hq] at he
    simp only at he
    split
    · rename_i hs
      rw [if_pos hs] at he
      split at he
      · rename_i s ha
        rw [code_mono h hl _ _ _ ha]
        simp only
        split
        · rename_i hG
          rw [hG] at he
          simp only at he
          split at he
          · rename_i hb; rw [code_mono h hl _ _ _ hb]; exact he
          · rename_i hb; rw [code_mono h hl _ _ _ hb]; exact he
          · rename_i hb; rw [code_mono h hl _ _ _ hb]; exact he
          · rename_i hb; rw [code_mono h hl _ _ _ hb]; exact he
          · cases he
        · rename_i hG
          split at he
          · exact absurd (by assumption) (hG _ _ _ _ _ _ _)
          · exact he
      · cases he
    · rename_i hs; rw [if_neg hs] at he; exact he
  · rename_i hq
    split at he
    · exact absurd (by assumption) (hq _ _ _ _ _ _ _)
    · exact he

theorem low_succ : ∀ n, (low C n).le (low C (n + 1))
  | 0 => .mk (fun _ _ _ _ _ _ h => nomatch h) (fun _ _ _ _ _ h => nomatch h)
  | n + 1 => ⟨fun _ _ _ _ _ _ h => callF_mono (low_succ n) (Nat.le_succ n) h, fun _ _ _ _ _ h => roundF_mono (low_succ n) (Nat.le_succ n) h⟩

theorem low_mono {n m : Nat} (h : n ≤ m) : (low C n).le (low C m) := by
  induction h with
  | refl => exact ⟨fun _ _ _ _ _ _ h => h, fun _ _ _ _ _ h => h⟩
  | step _ ih => exact ⟨fun _ _ _ _ _ _ h => (low_succ _).call _ _ _ _ _ _ (ih.call _ _ _ _ _ _ h), fun _ _ _ _ _ h => (low_succ _).round _ _ _ _ _ (ih.round _ _ _ _ _ h)⟩

end Go.Abs
