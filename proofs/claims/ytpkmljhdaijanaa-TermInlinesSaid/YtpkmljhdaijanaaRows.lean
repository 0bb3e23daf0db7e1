/-
  NARROWER THAN 'FOR EVERY INPUT', by the rows' own cells (each row's printed sentence says how): TermReaches: loops · TermInlines: loops · TermKeeps: loops · TermChecks: loops · TermParts: loops · TermRings: loops.
  DERIVED. THE GIVEN ROWS OF THIS SEAT. 7 by the template 'for every input the law returns true; each argument reads behind the call as it read before'; 0 by the template 'total and deterministic' (their statements: YtpkmljhdaijanaaTotals.lean).
  GIVEN WITH THE SEED: the statements are not yours to turn. If you find one false, say at which input.
  Laid BY PROGRAM, IN A SANDBOX (cutbox-rows.mjs): the forced cells as the released guide's own fill.sh prints them over the translation 524fe5ce7ce42923… (all of the seat's roots in one cut). By AI agents, Wed Nov 11 2026. No macro, syntax, notation, axiom, sorry.
-/
import Derived.Test.YtpkmljhdaijanaaChecked
import GoSem.Claim
import GoSem.ClaimJoined
import GoSem.ClaimMapViews
import Derived.JoinedTies
import Derived.KernelRfl
namespace Go.Proofs.Ytpkmljhdaijanaa
/- THE CELL 'sum', in the pinned program and in every row, IS THE sha256 OF THE DUMP (.gsa) THAT YtpkmljhdaijanaaProg.lean LOADS. Nothing in Lean hashes anything: it is a label: what it is worth is what the hold of that sum in a sandbox is worth. -/
noncomputable def Try.pinned : Pinned := { name := "ytpkmljhdaijanaa", sum := "524fe5ce7ce42923a35520c1bd1bf60af06ceb969e8ceb5024134c848f5b3928", checked := Try.checked }
namespace Rows
def none {H : Type} : Left H := { results := [], args := [] }

/-- 'afterwordlaw02.TermNames': WHATEVER THE INPUT: true; the input reads as it did. -/
def termNamesSpec : ChangeSpec := { name := "termNames", fn := fun _ => fun
  | [d1, d2] => { results := [.lit (.bool true)], args := [d1, d2] }
  | _ => none }
def termNamesRow : OpenClaim := { program := "ytpkmljhdaijanaa", sum := "524fe5ce7ce42923a35520c1bd1bf60af06ceb969e8ceb5024134c848f5b3928", func := "afterword/afterwordlaw02.TermNames", spec := "termNames", unfollowed := true, recurses := true, apart := false }
def TermNamesSaid : Prop := termNamesRow.holds Try.pinned (OpenSpec.ofChange termNamesSpec)

/-- ITS FALSE NEIGHBOUR: 'it returns false'. Refute it at one input. -/
def termNamesWrong : ChangeSpec := { name := "termNames", fn := fun _ => fun
  | [d1, d2] => { results := [.lit (.bool false)], args := [d1, d2] }
  | _ => none }
def TermNamesWrongFalsely : Prop := termNamesRow.holds Try.pinned (OpenSpec.ofChange termNamesWrong)

/-- 'afterwordlaw02.TermReaches': WHATEVER THE INPUT: true; the input reads as it did. -/
def termReachesSpec : ChangeSpec := { name := "termReaches", fn := fun _ => fun
  | [d1, d2] => { results := [.lit (.bool true)], args := [d1, d2] }
  | _ => none }
def termReachesRow : OpenClaim := { program := "ytpkmljhdaijanaa", sum := "524fe5ce7ce42923a35520c1bd1bf60af06ceb969e8ceb5024134c848f5b3928", func := "afterword/afterwordlaw02.TermReaches", spec := "termReaches", unfollowed := true, recurses := true, loops := true, apart := false }
def TermReachesSaid : Prop := termReachesRow.holds Try.pinned (OpenSpec.ofChange termReachesSpec)

/-- ITS FALSE NEIGHBOUR: 'it returns false'. Refute it at one input. -/
def termReachesWrong : ChangeSpec := { name := "termReaches", fn := fun _ => fun
  | [d1, d2] => { results := [.lit (.bool false)], args := [d1, d2] }
  | _ => none }
def TermReachesWrongFalsely : Prop := termReachesRow.holds Try.pinned (OpenSpec.ofChange termReachesWrong)

/-- 'afterwordlaw02.TermInlines': WHATEVER THE INPUT: true; the input reads as it did. -/
def termInlinesSpec : ChangeSpec := { name := "termInlines", fn := fun _ => fun
  | [d1, d2] => { results := [.lit (.bool true)], args := [d1, d2] }
  | _ => none }
def termInlinesRow : OpenClaim := { program := "ytpkmljhdaijanaa", sum := "524fe5ce7ce42923a35520c1bd1bf60af06ceb969e8ceb5024134c848f5b3928", func := "afterword/afterwordlaw02.TermInlines", spec := "termInlines", unfollowed := true, recurses := true, loops := true, apart := false }
def TermInlinesSaid : Prop := termInlinesRow.holds Try.pinned (OpenSpec.ofChange termInlinesSpec)

/-- ITS FALSE NEIGHBOUR: 'it returns false'. Refute it at one input. -/
def termInlinesWrong : ChangeSpec := { name := "termInlines", fn := fun _ => fun
  | [d1, d2] => { results := [.lit (.bool false)], args := [d1, d2] }
  | _ => none }
def TermInlinesWrongFalsely : Prop := termInlinesRow.holds Try.pinned (OpenSpec.ofChange termInlinesWrong)

/-- 'afterwordlaw02.TermKeeps': WHATEVER THE INPUT: true; the input reads as it did. -/
def termKeepsSpec : ChangeSpec := { name := "termKeeps", fn := fun _ => fun
  | [d1, d2] => { results := [.lit (.bool true)], args := [d1, d2] }
  | _ => none }
def termKeepsRow : OpenClaim := { program := "ytpkmljhdaijanaa", sum := "524fe5ce7ce42923a35520c1bd1bf60af06ceb969e8ceb5024134c848f5b3928", func := "afterword/afterwordlaw02.TermKeeps", spec := "termKeeps", unfollowed := true, recurses := true, loops := true, apart := false }
def TermKeepsSaid : Prop := termKeepsRow.holds Try.pinned (OpenSpec.ofChange termKeepsSpec)

/-- ITS FALSE NEIGHBOUR: 'it returns false'. Refute it at one input. -/
def termKeepsWrong : ChangeSpec := { name := "termKeeps", fn := fun _ => fun
  | [d1, d2] => { results := [.lit (.bool false)], args := [d1, d2] }
  | _ => none }
def TermKeepsWrongFalsely : Prop := termKeepsRow.holds Try.pinned (OpenSpec.ofChange termKeepsWrong)

/-- 'afterwordlaw02.TermChecks': WHATEVER THE INPUT: true; the input reads as it did. -/
def termChecksSpec : ChangeSpec := { name := "termChecks", fn := fun _ => fun
  | [d] => { results := [.lit (.bool true)], args := [d] }
  | _ => none }
def termChecksRow : OpenClaim := { program := "ytpkmljhdaijanaa", sum := "524fe5ce7ce42923a35520c1bd1bf60af06ceb969e8ceb5024134c848f5b3928", func := "afterword/afterwordlaw02.TermChecks", spec := "termChecks", unfollowed := true, recurses := true, loops := true, apart := false }
def TermChecksSaid : Prop := termChecksRow.holds Try.pinned (OpenSpec.ofChange termChecksSpec)

/-- ITS FALSE NEIGHBOUR: 'it returns false'. Refute it at one input. -/
def termChecksWrong : ChangeSpec := { name := "termChecks", fn := fun _ => fun
  | [d] => { results := [.lit (.bool false)], args := [d] }
  | _ => none }
def TermChecksWrongFalsely : Prop := termChecksRow.holds Try.pinned (OpenSpec.ofChange termChecksWrong)

/-- 'afterwordlaw02.TermParts': WHATEVER THE INPUT: true; the input reads as it did. -/
def termPartsSpec : ChangeSpec := { name := "termParts", fn := fun _ => fun
  | [d1, d2] => { results := [.lit (.bool true)], args := [d1, d2] }
  | _ => none }
def termPartsRow : OpenClaim := { program := "ytpkmljhdaijanaa", sum := "524fe5ce7ce42923a35520c1bd1bf60af06ceb969e8ceb5024134c848f5b3928", func := "afterword/afterwordlaw02.TermParts", spec := "termParts", unfollowed := true, recurses := true, loops := true, apart := false }
def TermPartsSaid : Prop := termPartsRow.holds Try.pinned (OpenSpec.ofChange termPartsSpec)

/-- ITS FALSE NEIGHBOUR: 'it returns false'. Refute it at one input. -/
def termPartsWrong : ChangeSpec := { name := "termParts", fn := fun _ => fun
  | [d1, d2] => { results := [.lit (.bool false)], args := [d1, d2] }
  | _ => none }
def TermPartsWrongFalsely : Prop := termPartsRow.holds Try.pinned (OpenSpec.ofChange termPartsWrong)

/-- 'afterwordlaw02.TermRings': WHATEVER THE INPUT: true; the input reads as it did. -/
def termRingsSpec : ChangeSpec := { name := "termRings", fn := fun _ => fun
  | [d1, d2] => { results := [.lit (.bool true)], args := [d1, d2] }
  | _ => none }
def termRingsRow : OpenClaim := { program := "ytpkmljhdaijanaa", sum := "524fe5ce7ce42923a35520c1bd1bf60af06ceb969e8ceb5024134c848f5b3928", func := "afterword/afterwordlaw02.TermRings", spec := "termRings", unfollowed := true, recurses := true, loops := true, apart := false }
def TermRingsSaid : Prop := termRingsRow.holds Try.pinned (OpenSpec.ofChange termRingsSpec)

/-- ITS FALSE NEIGHBOUR: 'it returns false'. Refute it at one input. -/
def termRingsWrong : ChangeSpec := { name := "termRings", fn := fun _ => fun
  | [d1, d2] => { results := [.lit (.bool false)], args := [d1, d2] }
  | _ => none }
def TermRingsWrongFalsely : Prop := termRingsRow.holds Try.pinned (OpenSpec.ofChange termRingsWrong)

/- THE SECOND FORM. 'bulk': how many values and letters a reading holds, each counted each time it is reached (what is shared counts as often as it is met; a slice's spare places count too). A statement '..UptoSaid' is the law's where the arguments, and the package variables that the reading takes, are together of bulk at most 1048576: NARROWER than '..Said'. Prove '..Said' where nothing that the law and all that it calls make is longer than what came in: it says more and counts as full. Else prove '..UptoSaid'. A law counts once. -/
mutual
def uptoBulk {H : Type} : DataW H → Nat
  | .lit (.string bytes) => bytes.length + 1
  | .lit _ => 1
  | .nil => 1
  | .ptr d => uptoBulk d + 1
  | .slice elems spare => uptoBulkAll elems + uptoBulkAll spare + 1
  | .agg parts => uptoBulkAll parts + 1
  | .iface _ d => uptoBulk d + 1
  | .map entries => uptoBulkEntries entries + 1
  | .held _ => 1
def uptoBulkAll {H : Type} : List (DataW H) → Nat
  | [] => 0
  | d :: r => uptoBulk d + uptoBulkAll r
def uptoBulkEntries {H : Type} : List (Lit × DataW H) → Nat
  | [] => 0
  | x :: r => uptoBulkEntry x + uptoBulkEntries r
def uptoBulkEntry {H : Type} : Lit × DataW H → Nat
  | (.string bytes, d) => bytes.length + uptoBulk d + 1
  | (_, d) => uptoBulk d + 1
 end
def uptoSmall : (H : Type) → List (DataW H) → Bool := fun _ ds => decide (uptoBulkAll ds ≤ 1048576)
def OpenSpec.upto (s : _root_.Go.ChangeSpec) : _root_.Go.OpenSpec := { _root_.Go.OpenSpec.ofChange s with cond := some uptoSmall }

/-- 'afterwordlaw02.TermNames', WHERE WHAT IT READS IS OF BULK AT MOST 1048576: true; the input reads as it did. -/
def termNamesUptoRow : OpenClaim := { program := "ytpkmljhdaijanaa", sum := "524fe5ce7ce42923a35520c1bd1bf60af06ceb969e8ceb5024134c848f5b3928", func := "afterword/afterwordlaw02.TermNames", spec := "termNames", unfollowed := true, recurses := true, apart := false, narrowed := true }
def TermNamesUptoSaid : Prop := termNamesUptoRow.holds Try.pinned (OpenSpec.upto termNamesSpec)

/-- 'afterwordlaw02.TermReaches', WHERE WHAT IT READS IS OF BULK AT MOST 1048576: true; the input reads as it did. -/
def termReachesUptoRow : OpenClaim := { program := "ytpkmljhdaijanaa", sum := "524fe5ce7ce42923a35520c1bd1bf60af06ceb969e8ceb5024134c848f5b3928", func := "afterword/afterwordlaw02.TermReaches", spec := "termReaches", unfollowed := true, recurses := true, loops := true, apart := false, narrowed := true }
def TermReachesUptoSaid : Prop := termReachesUptoRow.holds Try.pinned (OpenSpec.upto termReachesSpec)

/-- 'afterwordlaw02.TermInlines', WHERE WHAT IT READS IS OF BULK AT MOST 1048576: true; the input reads as it did. -/
def termInlinesUptoRow : OpenClaim := { program := "ytpkmljhdaijanaa", sum := "524fe5ce7ce42923a35520c1bd1bf60af06ceb969e8ceb5024134c848f5b3928", func := "afterword/afterwordlaw02.TermInlines", spec := "termInlines", unfollowed := true, recurses := true, loops := true, apart := false, narrowed := true }
def TermInlinesUptoSaid : Prop := termInlinesUptoRow.holds Try.pinned (OpenSpec.upto termInlinesSpec)

/-- 'afterwordlaw02.TermKeeps', WHERE WHAT IT READS IS OF BULK AT MOST 1048576: true; the input reads as it did. -/
def termKeepsUptoRow : OpenClaim := { program := "ytpkmljhdaijanaa", sum := "524fe5ce7ce42923a35520c1bd1bf60af06ceb969e8ceb5024134c848f5b3928", func := "afterword/afterwordlaw02.TermKeeps", spec := "termKeeps", unfollowed := true, recurses := true, loops := true, apart := false, narrowed := true }
def TermKeepsUptoSaid : Prop := termKeepsUptoRow.holds Try.pinned (OpenSpec.upto termKeepsSpec)

/-- 'afterwordlaw02.TermChecks', WHERE WHAT IT READS IS OF BULK AT MOST 1048576: true; the input reads as it did. -/
def termChecksUptoRow : OpenClaim := { program := "ytpkmljhdaijanaa", sum := "524fe5ce7ce42923a35520c1bd1bf60af06ceb969e8ceb5024134c848f5b3928", func := "afterword/afterwordlaw02.TermChecks", spec := "termChecks", unfollowed := true, recurses := true, loops := true, apart := false, narrowed := true }
def TermChecksUptoSaid : Prop := termChecksUptoRow.holds Try.pinned (OpenSpec.upto termChecksSpec)

/-- 'afterwordlaw02.TermParts', WHERE WHAT IT READS IS OF BULK AT MOST 1048576: true; the input reads as it did. -/
def termPartsUptoRow : OpenClaim := { program := "ytpkmljhdaijanaa", sum := "524fe5ce7ce42923a35520c1bd1bf60af06ceb969e8ceb5024134c848f5b3928", func := "afterword/afterwordlaw02.TermParts", spec := "termParts", unfollowed := true, recurses := true, loops := true, apart := false, narrowed := true }
def TermPartsUptoSaid : Prop := termPartsUptoRow.holds Try.pinned (OpenSpec.upto termPartsSpec)

/-- 'afterwordlaw02.TermRings', WHERE WHAT IT READS IS OF BULK AT MOST 1048576: true; the input reads as it did. -/
def termRingsUptoRow : OpenClaim := { program := "ytpkmljhdaijanaa", sum := "524fe5ce7ce42923a35520c1bd1bf60af06ceb969e8ceb5024134c848f5b3928", func := "afterword/afterwordlaw02.TermRings", spec := "termRings", unfollowed := true, recurses := true, loops := true, apart := false, narrowed := true }
def TermRingsUptoSaid : Prop := termRingsUptoRow.holds Try.pinned (OpenSpec.upto termRingsSpec)

end Rows
end Go.Proofs.Ytpkmljhdaijanaa
