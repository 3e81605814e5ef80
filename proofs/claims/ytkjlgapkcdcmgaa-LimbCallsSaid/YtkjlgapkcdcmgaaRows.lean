/-
  No cell of these rows narrows 'for every input' (looked for: loops, veiled, ifaces, maps, wideKeys, modest, calm, conditions, laid).
  DERIVED. THE GIVEN ROWS OF THIS SEAT. 10 by the template 'for every input the law returns true; each argument reads behind the call as it read before'; 0 by the template 'total and deterministic' (their statements: YtkjlgapkcdcmgaaTotals.lean).
  GIVEN WITH THE SEED: the statements are not yours to turn. If you find one false, say at which input.
  Laid BY PROGRAM, IN A SANDBOX (cutbox-rows.mjs): the forced cells as the released guide's own fill.sh prints them over the translation 8fef78fd1ee697c0… (all of the seat's roots in one cut). By AI agents, Wed Nov 11 2026. No macro, syntax, notation, axiom, sorry.
-/
import Derived.Test.YtkjlgapkcdcmgaaChecked
import GoSem.Claim
import GoSem.ClaimJoined
import GoSem.ClaimMapViews
import Derived.JoinedTies
import Derived.KernelRfl
namespace Go.Proofs.Ytkjlgapkcdcmgaa
/- THE CELL 'sum', in the pinned program and in every row, IS THE sha256 OF THE DUMP (.gsa) THAT YtkjlgapkcdcmgaaProg.lean LOADS. Nothing in Lean hashes anything: it is a label: what it is worth is what the hold of that sum in a sandbox is worth. -/
noncomputable def Try.pinned : Pinned := { name := "ytkjlgapkcdcmgaa", sum := "8fef78fd1ee697c0bcc9b8f139fcd765abcdfc753f0779b413aa37de917fea4b", checked := Try.checked }
namespace Rows
def none {H : Type} : Left H := { results := [], args := [] }

/-- 'keysmithlaw13.SecrecyLess': WHATEVER THE INPUT: true; the input reads as it did. -/
def secrecyLessSpec : ChangeSpec := { name := "secrecyLess", fn := fun _ => fun
  | [d1, d2] => { results := [.lit (.bool true)], args := [d1, d2] }
  | _ => none }
def secrecyLessRow : OpenClaim := { program := "ytkjlgapkcdcmgaa", sum := "8fef78fd1ee697c0bcc9b8f139fcd765abcdfc753f0779b413aa37de917fea4b", func := "keysmith/keysmithlaw13.SecrecyLess", spec := "secrecyLess", unfollowed := true, recurses := true, apart := false }
def SecrecyLessSaid : Prop := secrecyLessRow.holds Try.pinned (OpenSpec.ofChange secrecyLessSpec)

/-- ITS FALSE NEIGHBOUR: 'it returns false'. Refute it at one input. -/
def secrecyLessWrong : ChangeSpec := { name := "secrecyLess", fn := fun _ => fun
  | [d1, d2] => { results := [.lit (.bool false)], args := [d1, d2] }
  | _ => none }
def SecrecyLessWrongFalsely : Prop := secrecyLessRow.holds Try.pinned (OpenSpec.ofChange secrecyLessWrong)

/-- 'keysmithlaw13.SecrecyNamed': WHATEVER THE INPUT: true; the input reads as it did. -/
def secrecyNamedSpec : ChangeSpec := { name := "secrecyNamed", fn := fun _ => fun
  | [d1, d2] => { results := [.lit (.bool true)], args := [d1, d2] }
  | _ => none }
def secrecyNamedRow : OpenClaim := { program := "ytkjlgapkcdcmgaa", sum := "8fef78fd1ee697c0bcc9b8f139fcd765abcdfc753f0779b413aa37de917fea4b", func := "keysmith/keysmithlaw13.SecrecyNamed", spec := "secrecyNamed", unfollowed := true, recurses := true, apart := false }
def SecrecyNamedSaid : Prop := secrecyNamedRow.holds Try.pinned (OpenSpec.ofChange secrecyNamedSpec)

/-- ITS FALSE NEIGHBOUR: 'it returns false'. Refute it at one input. -/
def secrecyNamedWrong : ChangeSpec := { name := "secrecyNamed", fn := fun _ => fun
  | [d1, d2] => { results := [.lit (.bool false)], args := [d1, d2] }
  | _ => none }
def SecrecyNamedWrongFalsely : Prop := secrecyNamedRow.holds Try.pinned (OpenSpec.ofChange secrecyNamedWrong)

/-- 'keysmithlaw13.SecrecyRuns': WHATEVER THE INPUT: true; the input reads as it did. -/
def secrecyRunsSpec : ChangeSpec := { name := "secrecyRuns", fn := fun _ => fun
  | [d1, d2, d3] => { results := [.lit (.bool true)], args := [d1, d2, d3] }
  | _ => none }
def secrecyRunsRow : OpenClaim := { program := "ytkjlgapkcdcmgaa", sum := "8fef78fd1ee697c0bcc9b8f139fcd765abcdfc753f0779b413aa37de917fea4b", func := "keysmith/keysmithlaw13.SecrecyRuns", spec := "secrecyRuns", unfollowed := true, recurses := true, apart := false }
def SecrecyRunsSaid : Prop := secrecyRunsRow.holds Try.pinned (OpenSpec.ofChange secrecyRunsSpec)

/-- ITS FALSE NEIGHBOUR: 'it returns false'. Refute it at one input. -/
def secrecyRunsWrong : ChangeSpec := { name := "secrecyRuns", fn := fun _ => fun
  | [d1, d2, d3] => { results := [.lit (.bool false)], args := [d1, d2, d3] }
  | _ => none }
def SecrecyRunsWrongFalsely : Prop := secrecyRunsRow.holds Try.pinned (OpenSpec.ofChange secrecyRunsWrong)

/-- 'keysmithlaw13.SecrecyNames': WHATEVER THE INPUT: true; the input reads as it did. -/
def secrecyNamesSpec : ChangeSpec := { name := "secrecyNames", fn := fun _ => fun
  | [] => { results := [.lit (.bool true)], args := [] }
  | _ => none }
def secrecyNamesRow : OpenClaim := { program := "ytkjlgapkcdcmgaa", sum := "8fef78fd1ee697c0bcc9b8f139fcd765abcdfc753f0779b413aa37de917fea4b", func := "keysmith/keysmithlaw13.SecrecyNames", spec := "secrecyNames", unfollowed := true, recurses := true, apart := false }
def SecrecyNamesSaid : Prop := secrecyNamesRow.holds Try.pinned (OpenSpec.ofChange secrecyNamesSpec)

/-- ITS FALSE NEIGHBOUR: 'it returns false'. Refute it at one input. -/
def secrecyNamesWrong : ChangeSpec := { name := "secrecyNames", fn := fun _ => fun
  | [] => { results := [.lit (.bool false)], args := [] }
  | _ => none }
def SecrecyNamesWrongFalsely : Prop := secrecyNamesRow.holds Try.pinned (OpenSpec.ofChange secrecyNamesWrong)

/-- 'keysmithlaw12.LimbSteps': WHATEVER THE INPUT: true; the input reads as it did. -/
def limbStepsSpec : ChangeSpec := { name := "limbSteps", fn := fun _ => fun
  | [d1, d2] => { results := [.lit (.bool true)], args := [d1, d2] }
  | _ => none }
def limbStepsRow : OpenClaim := { program := "ytkjlgapkcdcmgaa", sum := "8fef78fd1ee697c0bcc9b8f139fcd765abcdfc753f0779b413aa37de917fea4b", func := "keysmith/keysmithlaw12.LimbSteps", spec := "limbSteps", unfollowed := true, recurses := true, apart := false }
def LimbStepsSaid : Prop := limbStepsRow.holds Try.pinned (OpenSpec.ofChange limbStepsSpec)

/-- ITS FALSE NEIGHBOUR: 'it returns false'. Refute it at one input. -/
def limbStepsWrong : ChangeSpec := { name := "limbSteps", fn := fun _ => fun
  | [d1, d2] => { results := [.lit (.bool false)], args := [d1, d2] }
  | _ => none }
def LimbStepsWrongFalsely : Prop := limbStepsRow.holds Try.pinned (OpenSpec.ofChange limbStepsWrong)

/-- 'keysmithlaw12.LimbRounds': WHATEVER THE INPUT: true; the input reads as it did. -/
def limbRoundsSpec : ChangeSpec := { name := "limbRounds", fn := fun _ => fun
  | [d1, d2, d3, d4] => { results := [.lit (.bool true)], args := [d1, d2, d3, d4] }
  | _ => none }
def limbRoundsRow : OpenClaim := { program := "ytkjlgapkcdcmgaa", sum := "8fef78fd1ee697c0bcc9b8f139fcd765abcdfc753f0779b413aa37de917fea4b", func := "keysmith/keysmithlaw12.LimbRounds", spec := "limbRounds", unfollowed := true, recurses := true, apart := false }
def LimbRoundsSaid : Prop := limbRoundsRow.holds Try.pinned (OpenSpec.ofChange limbRoundsSpec)

/-- ITS FALSE NEIGHBOUR: 'it returns false'. Refute it at one input. -/
def limbRoundsWrong : ChangeSpec := { name := "limbRounds", fn := fun _ => fun
  | [d1, d2, d3, d4] => { results := [.lit (.bool false)], args := [d1, d2, d3, d4] }
  | _ => none }
def LimbRoundsWrongFalsely : Prop := limbRoundsRow.holds Try.pinned (OpenSpec.ofChange limbRoundsWrong)

/-- 'keysmithlaw12.LimbUnused': WHATEVER THE INPUT: true; the input reads as it did. -/
def limbUnusedSpec : ChangeSpec := { name := "limbUnused", fn := fun _ => fun
  | [d1, d2, d3, d4] => { results := [.lit (.bool true)], args := [d1, d2, d3, d4] }
  | _ => none }
def limbUnusedRow : OpenClaim := { program := "ytkjlgapkcdcmgaa", sum := "8fef78fd1ee697c0bcc9b8f139fcd765abcdfc753f0779b413aa37de917fea4b", func := "keysmith/keysmithlaw12.LimbUnused", spec := "limbUnused", unfollowed := true, recurses := true, apart := false }
def LimbUnusedSaid : Prop := limbUnusedRow.holds Try.pinned (OpenSpec.ofChange limbUnusedSpec)

/-- ITS FALSE NEIGHBOUR: 'it returns false'. Refute it at one input. -/
def limbUnusedWrong : ChangeSpec := { name := "limbUnused", fn := fun _ => fun
  | [d1, d2, d3, d4] => { results := [.lit (.bool false)], args := [d1, d2, d3, d4] }
  | _ => none }
def LimbUnusedWrongFalsely : Prop := limbUnusedRow.holds Try.pinned (OpenSpec.ofChange limbUnusedWrong)

/-- 'keysmithlaw12.LimbParts': WHATEVER THE INPUT: true; the input reads as it did. -/
def limbPartsSpec : ChangeSpec := { name := "limbParts", fn := fun _ => fun
  | [d1, d2] => { results := [.lit (.bool true)], args := [d1, d2] }
  | _ => none }
def limbPartsRow : OpenClaim := { program := "ytkjlgapkcdcmgaa", sum := "8fef78fd1ee697c0bcc9b8f139fcd765abcdfc753f0779b413aa37de917fea4b", func := "keysmith/keysmithlaw12.LimbParts", spec := "limbParts", unfollowed := true, recurses := true, apart := false }
def LimbPartsSaid : Prop := limbPartsRow.holds Try.pinned (OpenSpec.ofChange limbPartsSpec)

/-- ITS FALSE NEIGHBOUR: 'it returns false'. Refute it at one input. -/
def limbPartsWrong : ChangeSpec := { name := "limbParts", fn := fun _ => fun
  | [d1, d2] => { results := [.lit (.bool false)], args := [d1, d2] }
  | _ => none }
def LimbPartsWrongFalsely : Prop := limbPartsRow.holds Try.pinned (OpenSpec.ofChange limbPartsWrong)

/-- 'keysmithlaw12.LimbNames': WHATEVER THE INPUT: true; the input reads as it did. -/
def limbNamesSpec : ChangeSpec := { name := "limbNames", fn := fun _ => fun
  | [] => { results := [.lit (.bool true)], args := [] }
  | _ => none }
def limbNamesRow : OpenClaim := { program := "ytkjlgapkcdcmgaa", sum := "8fef78fd1ee697c0bcc9b8f139fcd765abcdfc753f0779b413aa37de917fea4b", func := "keysmith/keysmithlaw12.LimbNames", spec := "limbNames", unfollowed := true, recurses := true, apart := false }
def LimbNamesSaid : Prop := limbNamesRow.holds Try.pinned (OpenSpec.ofChange limbNamesSpec)

/-- ITS FALSE NEIGHBOUR: 'it returns false'. Refute it at one input. -/
def limbNamesWrong : ChangeSpec := { name := "limbNames", fn := fun _ => fun
  | [] => { results := [.lit (.bool false)], args := [] }
  | _ => none }
def LimbNamesWrongFalsely : Prop := limbNamesRow.holds Try.pinned (OpenSpec.ofChange limbNamesWrong)

/-- 'keysmithlaw12.LimbCalls': WHATEVER THE INPUT: true; the input reads as it did. -/
def limbCallsSpec : ChangeSpec := { name := "limbCalls", fn := fun _ => fun
  | [d1, d2, d3] => { results := [.lit (.bool true)], args := [d1, d2, d3] }
  | _ => none }
def limbCallsRow : OpenClaim := { program := "ytkjlgapkcdcmgaa", sum := "8fef78fd1ee697c0bcc9b8f139fcd765abcdfc753f0779b413aa37de917fea4b", func := "keysmith/keysmithlaw12.LimbCalls", spec := "limbCalls", unfollowed := true, recurses := true, apart := false }
def LimbCallsSaid : Prop := limbCallsRow.holds Try.pinned (OpenSpec.ofChange limbCallsSpec)

/-- ITS FALSE NEIGHBOUR: 'it returns false'. Refute it at one input. -/
def limbCallsWrong : ChangeSpec := { name := "limbCalls", fn := fun _ => fun
  | [d1, d2, d3] => { results := [.lit (.bool false)], args := [d1, d2, d3] }
  | _ => none }
def LimbCallsWrongFalsely : Prop := limbCallsRow.holds Try.pinned (OpenSpec.ofChange limbCallsWrong)

/- THE SECOND FORM. 'bulk': how many values and letters a reading holds, each counted each time it is reached (what is shared counts as often as it is met; a slice's spare places count too). A statement '..UptoSaid' is the law's where the arguments, and the package variables that the reading takes, are together of bulk at most 1048576: NARROWER than '..Said'. Prove '..Said' where nothing that the law and all that it calls make is longer than what came in: it says more and counts as full. Else prove '..UptoSaid'. A law counts once. -/
mutual
def uptoBulk {H : Type} : DataW H → Nat
  | .lit (.string bytes) => bytes.length + 1
  | .lit _ => 1
  | .nil => 1
  | .ptr d => uptoBulk d + 1
  | .slice elems spare => uptoBulkAll elems + uptoBulkAll spare + 1
  | .agg parts => uptoBulkAll parts + 1
  | .iface _ d => uptoBulk d + 1
  | .map entries => uptoBulkEntries entries + 1
  | .held _ => 1
def uptoBulkAll {H : Type} : List (DataW H) → Nat
  | [] => 0
  | d :: r => uptoBulk d + uptoBulkAll r
def uptoBulkEntries {H : Type} : List (Lit × DataW H) → Nat
  | [] => 0
  | x :: r => uptoBulkEntry x + uptoBulkEntries r
def uptoBulkEntry {H : Type} : Lit × DataW H → Nat
  | (.string bytes, d) => bytes.length + uptoBulk d + 1
  | (_, d) => uptoBulk d + 1
 end
def uptoSmall : (H : Type) → List (DataW H) → Bool := fun _ ds => decide (uptoBulkAll ds ≤ 1048576)
def OpenSpec.upto (s : _root_.Go.ChangeSpec) : _root_.Go.OpenSpec := { _root_.Go.OpenSpec.ofChange s with cond := some uptoSmall }

/-- 'keysmithlaw13.SecrecyLess', WHERE WHAT IT READS IS OF BULK AT MOST 1048576: true; the input reads as it did. -/
def secrecyLessUptoRow : OpenClaim := { program := "ytkjlgapkcdcmgaa", sum := "8fef78fd1ee697c0bcc9b8f139fcd765abcdfc753f0779b413aa37de917fea4b", func := "keysmith/keysmithlaw13.SecrecyLess", spec := "secrecyLess", unfollowed := true, recurses := true, apart := false, narrowed := true }
def SecrecyLessUptoSaid : Prop := secrecyLessUptoRow.holds Try.pinned (OpenSpec.upto secrecyLessSpec)

/-- 'keysmithlaw13.SecrecyNamed', WHERE WHAT IT READS IS OF BULK AT MOST 1048576: true; the input reads as it did. -/
def secrecyNamedUptoRow : OpenClaim := { program := "ytkjlgapkcdcmgaa", sum := "8fef78fd1ee697c0bcc9b8f139fcd765abcdfc753f0779b413aa37de917fea4b", func := "keysmith/keysmithlaw13.SecrecyNamed", spec := "secrecyNamed", unfollowed := true, recurses := true, apart := false, narrowed := true }
def SecrecyNamedUptoSaid : Prop := secrecyNamedUptoRow.holds Try.pinned (OpenSpec.upto secrecyNamedSpec)

/-- 'keysmithlaw13.SecrecyRuns', WHERE WHAT IT READS IS OF BULK AT MOST 1048576: true; the input reads as it did. -/
def secrecyRunsUptoRow : OpenClaim := { program := "ytkjlgapkcdcmgaa", sum := "8fef78fd1ee697c0bcc9b8f139fcd765abcdfc753f0779b413aa37de917fea4b", func := "keysmith/keysmithlaw13.SecrecyRuns", spec := "secrecyRuns", unfollowed := true, recurses := true, apart := false, narrowed := true }
def SecrecyRunsUptoSaid : Prop := secrecyRunsUptoRow.holds Try.pinned (OpenSpec.upto secrecyRunsSpec)

/-- 'keysmithlaw13.SecrecyNames', WHERE WHAT IT READS IS OF BULK AT MOST 1048576: true; the input reads as it did. -/
def secrecyNamesUptoRow : OpenClaim := { program := "ytkjlgapkcdcmgaa", sum := "8fef78fd1ee697c0bcc9b8f139fcd765abcdfc753f0779b413aa37de917fea4b", func := "keysmith/keysmithlaw13.SecrecyNames", spec := "secrecyNames", unfollowed := true, recurses := true, apart := false, narrowed := true }
def SecrecyNamesUptoSaid : Prop := secrecyNamesUptoRow.holds Try.pinned (OpenSpec.upto secrecyNamesSpec)

/-- 'keysmithlaw12.LimbSteps', WHERE WHAT IT READS IS OF BULK AT MOST 1048576: true; the input reads as it did. -/
def limbStepsUptoRow : OpenClaim := { program := "ytkjlgapkcdcmgaa", sum := "8fef78fd1ee697c0bcc9b8f139fcd765abcdfc753f0779b413aa37de917fea4b", func := "keysmith/keysmithlaw12.LimbSteps", spec := "limbSteps", unfollowed := true, recurses := true, apart := false, narrowed := true }
def LimbStepsUptoSaid : Prop := limbStepsUptoRow.holds Try.pinned (OpenSpec.upto limbStepsSpec)

/-- 'keysmithlaw12.LimbRounds', WHERE WHAT IT READS IS OF BULK AT MOST 1048576: true; the input reads as it did. -/
def limbRoundsUptoRow : OpenClaim := { program := "ytkjlgapkcdcmgaa", sum := "8fef78fd1ee697c0bcc9b8f139fcd765abcdfc753f0779b413aa37de917fea4b", func := "keysmith/keysmithlaw12.LimbRounds", spec := "limbRounds", unfollowed := true, recurses := true, apart := false, narrowed := true }
def LimbRoundsUptoSaid : Prop := limbRoundsUptoRow.holds Try.pinned (OpenSpec.upto limbRoundsSpec)

/-- 'keysmithlaw12.LimbUnused', WHERE WHAT IT READS IS OF BULK AT MOST 1048576: true; the input reads as it did. -/
def limbUnusedUptoRow : OpenClaim := { program := "ytkjlgapkcdcmgaa", sum := "8fef78fd1ee697c0bcc9b8f139fcd765abcdfc753f0779b413aa37de917fea4b", func := "keysmith/keysmithlaw12.LimbUnused", spec := "limbUnused", unfollowed := true, recurses := true, apart := false, narrowed := true }
def LimbUnusedUptoSaid : Prop := limbUnusedUptoRow.holds Try.pinned (OpenSpec.upto limbUnusedSpec)

/-- 'keysmithlaw12.LimbParts', WHERE WHAT IT READS IS OF BULK AT MOST 1048576: true; the input reads as it did. -/
def limbPartsUptoRow : OpenClaim := { program := "ytkjlgapkcdcmgaa", sum := "8fef78fd1ee697c0bcc9b8f139fcd765abcdfc753f0779b413aa37de917fea4b", func := "keysmith/keysmithlaw12.LimbParts", spec := "limbParts", unfollowed := true, recurses := true, apart := false, narrowed := true }
def LimbPartsUptoSaid : Prop := limbPartsUptoRow.holds Try.pinned (OpenSpec.upto limbPartsSpec)

/-- 'keysmithlaw12.LimbNames', WHERE WHAT IT READS IS OF BULK AT MOST 1048576: true; the input reads as it did. -/
def limbNamesUptoRow : OpenClaim := { program := "ytkjlgapkcdcmgaa", sum := "8fef78fd1ee697c0bcc9b8f139fcd765abcdfc753f0779b413aa37de917fea4b", func := "keysmith/keysmithlaw12.LimbNames", spec := "limbNames", unfollowed := true, recurses := true, apart := false, narrowed := true }
def LimbNamesUptoSaid : Prop := limbNamesUptoRow.holds Try.pinned (OpenSpec.upto limbNamesSpec)

/-- 'keysmithlaw12.LimbCalls', WHERE WHAT IT READS IS OF BULK AT MOST 1048576: true; the input reads as it did. -/
def limbCallsUptoRow : OpenClaim := { program := "ytkjlgapkcdcmgaa", sum := "8fef78fd1ee697c0bcc9b8f139fcd765abcdfc753f0779b413aa37de917fea4b", func := "keysmith/keysmithlaw12.LimbCalls", spec := "limbCalls", unfollowed := true, recurses := true, apart := false, narrowed := true }
def LimbCallsUptoSaid : Prop := limbCallsUptoRow.holds Try.pinned (OpenSpec.upto limbCallsSpec)

end Rows
end Go.Proofs.Ytkjlgapkcdcmgaa
