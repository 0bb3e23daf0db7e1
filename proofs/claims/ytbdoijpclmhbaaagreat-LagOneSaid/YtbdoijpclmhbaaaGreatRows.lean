/-
  NARROWER THAN 'FOR EVERY INPUT', by the rows' own cells (each row's printed sentence says how): TermAlikes: loops · TermRound: loops · LagTypes: loops · LagSeals: loops · LagTouches: loops · LagSound: loops · LagOne: loops · LagLeast: loops · LagMore: loops · LagWritten: loops.
  DERIVED. THE GIVEN ROWS OF THIS SEAT. 10 by the template 'for every input the law returns true; each argument reads behind the call as it read before'; 0 by the template 'total and deterministic' (their statements: YtbdoijpclmhbaaaGreatTotals.lean).
  GIVEN WITH THE SEED: the statements are not yours to turn. If you find one false, say at which input.
  Laid BY PROGRAM, IN A SANDBOX (cutbox-rows.mjs): the forced cells as the released guide's own fill.sh prints them over the translation fea8a4e72d6e8c82… (all of the seat's roots in one cut). By AI agents, Wed Nov 11 2026. No macro, syntax, notation, axiom, sorry.
-/
import Derived.Test.YtbdoijpclmhbaaaGreatChecked
import GoSem.Claim
import GoSem.ClaimJoined
import GoSem.ClaimMapViews
import Derived.JoinedTies
import Derived.KernelRfl
namespace Go.Proofs.YtbdoijpclmhbaaaGreat
/- THE CELL 'sum', in the pinned program and in every row, IS THE sha256 OF THE DUMP (.gsa) THAT YtbdoijpclmhbaaaGreatProg.lean LOADS. Nothing in Lean hashes anything: it is a label: what it is worth is what the hold of that sum in a sandbox is worth. -/
noncomputable def Tryz.pinned : Pinned := { name := "ytbdoijpclmhbaaagreat", sum := "fea8a4e72d6e8c8298de778e6533675efd6bbf284e29e8b69c8c10bb24290f67", checked := Tryz.checked }
namespace Rows
def none {H : Type} : Left H := { results := [], args := [] }

/-- 'afterwordlaw02.TermAlikes': WHATEVER THE INPUT: true; the input reads as it did. -/
def termAlikesSpec : ChangeSpec := { name := "termAlikes", fn := fun _ => fun
  | [d1, d2] => { results := [.lit (.bool true)], args := [d1, d2] }
  | _ => none }
def termAlikesRow : OpenClaim := { program := "ytbdoijpclmhbaaagreat", sum := "fea8a4e72d6e8c8298de778e6533675efd6bbf284e29e8b69c8c10bb24290f67", func := "afterword/afterwordlaw02.TermAlikes", spec := "termAlikes", unfollowed := true, recurses := true, loops := true, apart := false }
def TermAlikesSaid : Prop := termAlikesRow.holds Tryz.pinned (OpenSpec.ofChange termAlikesSpec)

/-- ITS FALSE NEIGHBOUR: 'it returns false'. Refute it at one input. -/
def termAlikesWrong : ChangeSpec := { name := "termAlikes", fn := fun _ => fun
  | [d1, d2] => { results := [.lit (.bool false)], args := [d1, d2] }
  | _ => none }
def TermAlikesWrongFalsely : Prop := termAlikesRow.holds Tryz.pinned (OpenSpec.ofChange termAlikesWrong)

/-- 'afterwordlaw02.TermRound': WHATEVER THE INPUT: true; the input reads as it did. -/
def termRoundSpec : ChangeSpec := { name := "termRound", fn := fun _ => fun
  | [d1, d2] => { results := [.lit (.bool true)], args := [d1, d2] }
  | _ => none }
def termRoundRow : OpenClaim := { program := "ytbdoijpclmhbaaagreat", sum := "fea8a4e72d6e8c8298de778e6533675efd6bbf284e29e8b69c8c10bb24290f67", func := "afterword/afterwordlaw02.TermRound", spec := "termRound", unfollowed := true, recurses := true, loops := true, apart := false }
def TermRoundSaid : Prop := termRoundRow.holds Tryz.pinned (OpenSpec.ofChange termRoundSpec)

/-- ITS FALSE NEIGHBOUR: 'it returns false'. Refute it at one input. -/
def termRoundWrong : ChangeSpec := { name := "termRound", fn := fun _ => fun
  | [d1, d2] => { results := [.lit (.bool false)], args := [d1, d2] }
  | _ => none }
def TermRoundWrongFalsely : Prop := termRoundRow.holds Tryz.pinned (OpenSpec.ofChange termRoundWrong)

/-- 'afterwordlaw07.LagTypes': WHATEVER THE INPUT: true; the input reads as it did. -/
def lagTypesSpec : ChangeSpec := { name := "lagTypes", fn := fun _ => fun
  | [d1, d2, d3] => { results := [.lit (.bool true)], args := [d1, d2, d3] }
  | _ => none }
def lagTypesRow : OpenClaim := { program := "ytbdoijpclmhbaaagreat", sum := "fea8a4e72d6e8c8298de778e6533675efd6bbf284e29e8b69c8c10bb24290f67", func := "afterword/afterwordlaw07.LagTypes", spec := "lagTypes", unfollowed := true, recurses := true, loops := true, apart := false }
def LagTypesSaid : Prop := lagTypesRow.holds Tryz.pinned (OpenSpec.ofChange lagTypesSpec)

/-- ITS FALSE NEIGHBOUR: 'it returns false'. Refute it at one input. -/
def lagTypesWrong : ChangeSpec := { name := "lagTypes", fn := fun _ => fun
  | [d1, d2, d3] => { results := [.lit (.bool false)], args := [d1, d2, d3] }
  | _ => none }
def LagTypesWrongFalsely : Prop := lagTypesRow.holds Tryz.pinned (OpenSpec.ofChange lagTypesWrong)

/-- 'afterwordlaw07.LagSeals': WHATEVER THE INPUT: true; the input reads as it did. -/
def lagSealsSpec : ChangeSpec := { name := "lagSeals", fn := fun _ => fun
  | [d1, d2, d3] => { results := [.lit (.bool true)], args := [d1, d2, d3] }
  | _ => none }
def lagSealsRow : OpenClaim := { program := "ytbdoijpclmhbaaagreat", sum := "fea8a4e72d6e8c8298de778e6533675efd6bbf284e29e8b69c8c10bb24290f67", func := "afterword/afterwordlaw07.LagSeals", spec := "lagSeals", unfollowed := true, recurses := true, loops := true, apart := false }
def LagSealsSaid : Prop := lagSealsRow.holds Tryz.pinned (OpenSpec.ofChange lagSealsSpec)

/-- ITS FALSE NEIGHBOUR: 'it returns false'. Refute it at one input. -/
def lagSealsWrong : ChangeSpec := { name := "lagSeals", fn := fun _ => fun
  | [d1, d2, d3] => { results := [.lit (.bool false)], args := [d1, d2, d3] }
  | _ => none }
def LagSealsWrongFalsely : Prop := lagSealsRow.holds Tryz.pinned (OpenSpec.ofChange lagSealsWrong)

/-- 'afterwordlaw07.LagTouches': WHATEVER THE INPUT: true; the input reads as it did. -/
def lagTouchesSpec : ChangeSpec := { name := "lagTouches", fn := fun _ => fun
  | [d1, d2] => { results := [.lit (.bool true)], args := [d1, d2] }
  | _ => none }
def lagTouchesRow : OpenClaim := { program := "ytbdoijpclmhbaaagreat", sum := "fea8a4e72d6e8c8298de778e6533675efd6bbf284e29e8b69c8c10bb24290f67", func := "afterword/afterwordlaw07.LagTouches", spec := "lagTouches", unfollowed := true, recurses := true, loops := true, apart := false }
def LagTouchesSaid : Prop := lagTouchesRow.holds Tryz.pinned (OpenSpec.ofChange lagTouchesSpec)

/-- ITS FALSE NEIGHBOUR: 'it returns false'. Refute it at one input. -/
def lagTouchesWrong : ChangeSpec := { name := "lagTouches", fn := fun _ => fun
  | [d1, d2] => { results := [.lit (.bool false)], args := [d1, d2] }
  | _ => none }
def LagTouchesWrongFalsely : Prop := lagTouchesRow.holds Tryz.pinned (OpenSpec.ofChange lagTouchesWrong)

/-- 'afterwordlaw07.LagSound': WHATEVER THE INPUT: true; the input reads as it did. -/
def lagSoundSpec : ChangeSpec := { name := "lagSound", fn := fun _ => fun
  | [d1, d2, d3] => { results := [.lit (.bool true)], args := [d1, d2, d3] }
  | _ => none }
def lagSoundRow : OpenClaim := { program := "ytbdoijpclmhbaaagreat", sum := "fea8a4e72d6e8c8298de778e6533675efd6bbf284e29e8b69c8c10bb24290f67", func := "afterword/afterwordlaw07.LagSound", spec := "lagSound", unfollowed := true, recurses := true, loops := true, apart := false }
def LagSoundSaid : Prop := lagSoundRow.holds Tryz.pinned (OpenSpec.ofChange lagSoundSpec)

/-- ITS FALSE NEIGHBOUR: 'it returns false'. Refute it at one input. -/
def lagSoundWrong : ChangeSpec := { name := "lagSound", fn := fun _ => fun
  | [d1, d2, d3] => { results := [.lit (.bool false)], args := [d1, d2, d3] }
  | _ => none }
def LagSoundWrongFalsely : Prop := lagSoundRow.holds Tryz.pinned (OpenSpec.ofChange lagSoundWrong)

/-- 'afterwordlaw07.LagOne': WHATEVER THE INPUT: true; the input reads as it did. -/
def lagOneSpec : ChangeSpec := { name := "lagOne", fn := fun _ => fun
  | [d1, d2, d3] => { results := [.lit (.bool true)], args := [d1, d2, d3] }
  | _ => none }
def lagOneRow : OpenClaim := { program := "ytbdoijpclmhbaaagreat", sum := "fea8a4e72d6e8c8298de778e6533675efd6bbf284e29e8b69c8c10bb24290f67", func := "afterword/afterwordlaw07.LagOne", spec := "lagOne", unfollowed := true, recurses := true, loops := true, apart := false }
def LagOneSaid : Prop := lagOneRow.holds Tryz.pinned (OpenSpec.ofChange lagOneSpec)

/-- ITS FALSE NEIGHBOUR: 'it returns false'. Refute it at one input. -/
def lagOneWrong : ChangeSpec := { name := "lagOne", fn := fun _ => fun
  | [d1, d2, d3] => { results := [.lit (.bool false)], args := [d1, d2, d3] }
  | _ => none }
def LagOneWrongFalsely : Prop := lagOneRow.holds Tryz.pinned (OpenSpec.ofChange lagOneWrong)

/-- 'afterwordlaw07.LagLeast': WHATEVER THE INPUT: true; the input reads as it did. -/
def lagLeastSpec : ChangeSpec := { name := "lagLeast", fn := fun _ => fun
  | [d1, d2] => { results := [.lit (.bool true)], args := [d1, d2] }
  | _ => none }
def lagLeastRow : OpenClaim := { program := "ytbdoijpclmhbaaagreat", sum := "fea8a4e72d6e8c8298de778e6533675efd6bbf284e29e8b69c8c10bb24290f67", func := "afterword/afterwordlaw07.LagLeast", spec := "lagLeast", unfollowed := true, recurses := true, loops := true, apart := false }
def LagLeastSaid : Prop := lagLeastRow.holds Tryz.pinned (OpenSpec.ofChange lagLeastSpec)

/-- ITS FALSE NEIGHBOUR: 'it returns false'. Refute it at one input. -/
def lagLeastWrong : ChangeSpec := { name := "lagLeast", fn := fun _ => fun
  | [d1, d2] => { results := [.lit (.bool false)], args := [d1, d2] }
  | _ => none }
def LagLeastWrongFalsely : Prop := lagLeastRow.holds Tryz.pinned (OpenSpec.ofChange lagLeastWrong)

/-- 'afterwordlaw07.LagMore': WHATEVER THE INPUT: true; the input reads as it did. -/
def lagMoreSpec : ChangeSpec := { name := "lagMore", fn := fun _ => fun
  | [d1, d2, d3] => { results := [.lit (.bool true)], args := [d1, d2, d3] }
  | _ => none }
def lagMoreRow : OpenClaim := { program := "ytbdoijpclmhbaaagreat", sum := "fea8a4e72d6e8c8298de778e6533675efd6bbf284e29e8b69c8c10bb24290f67", func := "afterword/afterwordlaw07.LagMore", spec := "lagMore", unfollowed := true, recurses := true, loops := true, apart := false }
def LagMoreSaid : Prop := lagMoreRow.holds Tryz.pinned (OpenSpec.ofChange lagMoreSpec)

/-- ITS FALSE NEIGHBOUR: 'it returns false'. Refute it at one input. -/
def lagMoreWrong : ChangeSpec := { name := "lagMore", fn := fun _ => fun
  | [d1, d2, d3] => { results := [.lit (.bool false)], args := [d1, d2, d3] }
  | _ => none }
def LagMoreWrongFalsely : Prop := lagMoreRow.holds Tryz.pinned (OpenSpec.ofChange lagMoreWrong)

/-- 'afterwordlaw07.LagWritten': WHATEVER THE INPUT: true; the input reads as it did. -/
def lagWrittenSpec : ChangeSpec := { name := "lagWritten", fn := fun _ => fun
  | [d1, d2] => { results := [.lit (.bool true)], args := [d1, d2] }
  | _ => none }
def lagWrittenRow : OpenClaim := { program := "ytbdoijpclmhbaaagreat", sum := "fea8a4e72d6e8c8298de778e6533675efd6bbf284e29e8b69c8c10bb24290f67", func := "afterword/afterwordlaw07.LagWritten", spec := "lagWritten", unfollowed := true, recurses := true, loops := true, apart := false }
def LagWrittenSaid : Prop := lagWrittenRow.holds Tryz.pinned (OpenSpec.ofChange lagWrittenSpec)

/-- ITS FALSE NEIGHBOUR: 'it returns false'. Refute it at one input. -/
def lagWrittenWrong : ChangeSpec := { name := "lagWritten", fn := fun _ => fun
  | [d1, d2] => { results := [.lit (.bool false)], args := [d1, d2] }
  | _ => none }
def LagWrittenWrongFalsely : Prop := lagWrittenRow.holds Tryz.pinned (OpenSpec.ofChange lagWrittenWrong)

/- THE SECOND FORM. 'bulk': how many values and letters a reading holds, each counted each time it is reached (what is shared counts as often as it is met; a slice's spare places count too). A statement '..UptoSaid' is the law's where the arguments, and the package variables that the reading takes, are together of bulk at most 1048576: NARROWER than '..Said'. Prove '..Said' where nothing that the law and all that it calls make is longer than what came in: it says more and counts as full. Else prove '..UptoSaid'. A law counts once. -/
mutual
def uptoBulk {H : Type} : DataW H → Nat
  | .lit (.string bytes) => bytes.length + 1
  | .lit _ => 1
  | .nil => 1
  | .ptr d => uptoBulk d + 1
  | .slice elems spare => uptoBulkAll elems + uptoBulkAll spare + 1
  | .agg parts => uptoBulkAll parts + 1
  | .iface _ d => uptoBulk d + 1
  | .map entries => uptoBulkEntries entries + 1
  | .held _ => 1
def uptoBulkAll {H : Type} : List (DataW H) → Nat
  | [] => 0
  | d :: r => uptoBulk d + uptoBulkAll r
def uptoBulkEntries {H : Type} : List (Lit × DataW H) → Nat
  | [] => 0
  | x :: r => uptoBulkEntry x + uptoBulkEntries r
def uptoBulkEntry {H : Type} : Lit × DataW H → Nat
  | (.string bytes, d) => bytes.length + uptoBulk d + 1
  | (_, d) => uptoBulk d + 1
 end
def uptoSmall : (H : Type) → List (DataW H) → Bool := fun _ ds => decide (uptoBulkAll ds ≤ 1048576)
def OpenSpec.upto (s : _root_.Go.ChangeSpec) : _root_.Go.OpenSpec := { _root_.Go.OpenSpec.ofChange s with cond := some uptoSmall }

/-- 'afterwordlaw02.TermAlikes', WHERE WHAT IT READS IS OF BULK AT MOST 1048576: true; the input reads as it did. -/
def termAlikesUptoRow : OpenClaim := { program := "ytbdoijpclmhbaaagreat", sum := "fea8a4e72d6e8c8298de778e6533675efd6bbf284e29e8b69c8c10bb24290f67", func := "afterword/afterwordlaw02.TermAlikes", spec := "termAlikes", unfollowed := true, recurses := true, loops := true, apart := false, narrowed := true }
def TermAlikesUptoSaid : Prop := termAlikesUptoRow.holds Tryz.pinned (OpenSpec.upto termAlikesSpec)

/-- 'afterwordlaw02.TermRound', WHERE WHAT IT READS IS OF BULK AT MOST 1048576: true; the input reads as it did. -/
def termRoundUptoRow : OpenClaim := { program := "ytbdoijpclmhbaaagreat", sum := "fea8a4e72d6e8c8298de778e6533675efd6bbf284e29e8b69c8c10bb24290f67", func := "afterword/afterwordlaw02.TermRound", spec := "termRound", unfollowed := true, recurses := true, loops := true, apart := false, narrowed := true }
def TermRoundUptoSaid : Prop := termRoundUptoRow.holds Tryz.pinned (OpenSpec.upto termRoundSpec)

/-- 'afterwordlaw07.LagTypes', WHERE WHAT IT READS IS OF BULK AT MOST 1048576: true; the input reads as it did. -/
def lagTypesUptoRow : OpenClaim := { program := "ytbdoijpclmhbaaagreat", sum := "fea8a4e72d6e8c8298de778e6533675efd6bbf284e29e8b69c8c10bb24290f67", func := "afterword/afterwordlaw07.LagTypes", spec := "lagTypes", unfollowed := true, recurses := true, loops := true, apart := false, narrowed := true }
def LagTypesUptoSaid : Prop := lagTypesUptoRow.holds Tryz.pinned (OpenSpec.upto lagTypesSpec)

/-- 'afterwordlaw07.LagSeals', WHERE WHAT IT READS IS OF BULK AT MOST 1048576: true; the input reads as it did. -/
def lagSealsUptoRow : OpenClaim := { program := "ytbdoijpclmhbaaagreat", sum := "fea8a4e72d6e8c8298de778e6533675efd6bbf284e29e8b69c8c10bb24290f67", func := "afterword/afterwordlaw07.LagSeals", spec := "lagSeals", unfollowed := true, recurses := true, loops := true, apart := false, narrowed := true }
def LagSealsUptoSaid : Prop := lagSealsUptoRow.holds Tryz.pinned (OpenSpec.upto lagSealsSpec)

/-- 'afterwordlaw07.LagTouches', WHERE WHAT IT READS IS OF BULK AT MOST 1048576: true; the input reads as it did. -/
def lagTouchesUptoRow : OpenClaim := { program := "ytbdoijpclmhbaaagreat", sum := "fea8a4e72d6e8c8298de778e6533675efd6bbf284e29e8b69c8c10bb24290f67", func := "afterword/afterwordlaw07.LagTouches", spec := "lagTouches", unfollowed := true, recurses := true, loops := true, apart := false, narrowed := true }
def LagTouchesUptoSaid : Prop := lagTouchesUptoRow.holds Tryz.pinned (OpenSpec.upto lagTouchesSpec)

/-- 'afterwordlaw07.LagSound', WHERE WHAT IT READS IS OF BULK AT MOST 1048576: true; the input reads as it did. -/
def lagSoundUptoRow : OpenClaim := { program := "ytbdoijpclmhbaaagreat", sum := "fea8a4e72d6e8c8298de778e6533675efd6bbf284e29e8b69c8c10bb24290f67", func := "afterword/afterwordlaw07.LagSound", spec := "lagSound", unfollowed := true, recurses := true, loops := true, apart := false, narrowed := true }
def LagSoundUptoSaid : Prop := lagSoundUptoRow.holds Tryz.pinned (OpenSpec.upto lagSoundSpec)

/-- 'afterwordlaw07.LagOne', WHERE WHAT IT READS IS OF BULK AT MOST 1048576: true; the input reads as it did. -/
def lagOneUptoRow : OpenClaim := { program := "ytbdoijpclmhbaaagreat", sum := "fea8a4e72d6e8c8298de778e6533675efd6bbf284e29e8b69c8c10bb24290f67", func := "afterword/afterwordlaw07.LagOne", spec := "lagOne", unfollowed := true, recurses := true, loops := true, apart := false, narrowed := true }
def LagOneUptoSaid : Prop := lagOneUptoRow.holds Tryz.pinned (OpenSpec.upto lagOneSpec)

/-- 'afterwordlaw07.LagLeast', WHERE WHAT IT READS IS OF BULK AT MOST 1048576: true; the input reads as it did. -/
def lagLeastUptoRow : OpenClaim := { program := "ytbdoijpclmhbaaagreat", sum := "fea8a4e72d6e8c8298de778e6533675efd6bbf284e29e8b69c8c10bb24290f67", func := "afterword/afterwordlaw07.LagLeast", spec := "lagLeast", unfollowed := true, recurses := true, loops := true, apart := false, narrowed := true }
def LagLeastUptoSaid : Prop := lagLeastUptoRow.holds Tryz.pinned (OpenSpec.upto lagLeastSpec)

/-- 'afterwordlaw07.LagMore', WHERE WHAT IT READS IS OF BULK AT MOST 1048576: true; the input reads as it did. -/
def lagMoreUptoRow : OpenClaim := { program := "ytbdoijpclmhbaaagreat", sum := "fea8a4e72d6e8c8298de778e6533675efd6bbf284e29e8b69c8c10bb24290f67", func := "afterword/afterwordlaw07.LagMore", spec := "lagMore", unfollowed := true, recurses := true, loops := true, apart := false, narrowed := true }
def LagMoreUptoSaid : Prop := lagMoreUptoRow.holds Tryz.pinned (OpenSpec.upto lagMoreSpec)

/-- 'afterwordlaw07.LagWritten', WHERE WHAT IT READS IS OF BULK AT MOST 1048576: true; the input reads as it did. -/
def lagWrittenUptoRow : OpenClaim := { program := "ytbdoijpclmhbaaagreat", sum := "fea8a4e72d6e8c8298de778e6533675efd6bbf284e29e8b69c8c10bb24290f67", func := "afterword/afterwordlaw07.LagWritten", spec := "lagWritten", unfollowed := true, recurses := true, loops := true, apart := false, narrowed := true }
def LagWrittenUptoSaid : Prop := lagWrittenUptoRow.holds Tryz.pinned (OpenSpec.upto lagWrittenSpec)

end Rows
end Go.Proofs.YtbdoijpclmhbaaaGreat
