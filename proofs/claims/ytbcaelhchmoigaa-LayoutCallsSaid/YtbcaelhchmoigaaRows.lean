/-
  No cell of these rows narrows 'for every input' (looked for: loops, veiled, ifaces, maps, wideKeys, modest, calm, conditions, laid).
  DERIVED. THE GIVEN ROWS OF THIS SEAT. 6 by the template 'for every input the law returns true; each argument reads behind the call as it read before'; 0 by the template 'total and deterministic' (their statements: YtbcaelhchmoigaaTotals.lean).
  GIVEN WITH THE SEED: the statements are not yours to turn. If you find one false, say at which input.
  Laid BY PROGRAM, IN A SANDBOX (cutbox-rows.mjs): the forced cells as the released guide's own fill.sh prints them over the translation 6415cb149caad23b… (all of the seat's roots in one cut). By AI agents, Wed Nov 11 2026. No macro, syntax, notation, axiom, sorry.
-/
import Derived.Test.YtbcaelhchmoigaaChecked
import GoSem.Claim
import GoSem.ClaimJoined
import GoSem.ClaimMapViews
import Derived.JoinedTies
import Derived.KernelRfl
namespace Go.Proofs.Ytbcaelhchmoigaa
/- THE CELL 'sum', in the pinned program and in every row, IS THE sha256 OF THE DUMP (.gsa) THAT YtbcaelhchmoigaaProg.lean LOADS. Nothing in Lean hashes anything: it is a label: what it is worth is what the hold of that sum in a sandbox is worth. -/
noncomputable def Try.pinned : Pinned := { name := "ytbcaelhchmoigaa", sum := "6415cb149caad23b0bdf7876e32ed051166471a525ea5b4dbb6044f58d1ef2c1", checked := Try.checked }
namespace Rows
def none {H : Type} : Left H := { results := [], args := [] }

/-- 'keysmithlaw10.LayoutJumps': WHATEVER THE INPUT: true; the input reads as it did. -/
def layoutJumpsSpec : ChangeSpec := { name := "layoutJumps", fn := fun _ => fun
  | [d] => { results := [.lit (.bool true)], args := [d] }
  | _ => none }
def layoutJumpsRow : OpenClaim := { program := "ytbcaelhchmoigaa", sum := "6415cb149caad23b0bdf7876e32ed051166471a525ea5b4dbb6044f58d1ef2c1", func := "keysmith/keysmithlaw10.LayoutJumps", spec := "layoutJumps", unfollowed := true, recurses := true, plainKeys := false, apart := false }
def LayoutJumpsSaid : Prop := layoutJumpsRow.holds Try.pinned (OpenSpec.ofChange layoutJumpsSpec)

/-- ITS FALSE NEIGHBOUR: 'it returns false'. Refute it at one input. -/
def layoutJumpsWrong : ChangeSpec := { name := "layoutJumps", fn := fun _ => fun
  | [d] => { results := [.lit (.bool false)], args := [d] }
  | _ => none }
def LayoutJumpsWrongFalsely : Prop := layoutJumpsRow.holds Try.pinned (OpenSpec.ofChange layoutJumpsWrong)

/-- 'keysmithlaw10.LayoutLabels': WHATEVER THE INPUT: true; the input reads as it did. -/
def layoutLabelsSpec : ChangeSpec := { name := "layoutLabels", fn := fun _ => fun
  | [d1, d2] => { results := [.lit (.bool true)], args := [d1, d2] }
  | _ => none }
def layoutLabelsRow : OpenClaim := { program := "ytbcaelhchmoigaa", sum := "6415cb149caad23b0bdf7876e32ed051166471a525ea5b4dbb6044f58d1ef2c1", func := "keysmith/keysmithlaw10.LayoutLabels", spec := "layoutLabels", unfollowed := true, recurses := true, plainKeys := false, apart := false }
def LayoutLabelsSaid : Prop := layoutLabelsRow.holds Try.pinned (OpenSpec.ofChange layoutLabelsSpec)

/-- ITS FALSE NEIGHBOUR: 'it returns false'. Refute it at one input. -/
def layoutLabelsWrong : ChangeSpec := { name := "layoutLabels", fn := fun _ => fun
  | [d1, d2] => { results := [.lit (.bool false)], args := [d1, d2] }
  | _ => none }
def LayoutLabelsWrongFalsely : Prop := layoutLabelsRow.holds Try.pinned (OpenSpec.ofChange layoutLabelsWrong)

/-- 'keysmithlaw10.LayoutCut': WHATEVER THE INPUT: true; the input reads as it did. -/
def layoutCutSpec : ChangeSpec := { name := "layoutCut", fn := fun _ => fun
  | [d1, d2] => { results := [.lit (.bool true)], args := [d1, d2] }
  | _ => none }
def layoutCutRow : OpenClaim := { program := "ytbcaelhchmoigaa", sum := "6415cb149caad23b0bdf7876e32ed051166471a525ea5b4dbb6044f58d1ef2c1", func := "keysmith/keysmithlaw10.LayoutCut", spec := "layoutCut", unfollowed := true, recurses := true, plainKeys := false, apart := false }
def LayoutCutSaid : Prop := layoutCutRow.holds Try.pinned (OpenSpec.ofChange layoutCutSpec)

/-- ITS FALSE NEIGHBOUR: 'it returns false'. Refute it at one input. -/
def layoutCutWrong : ChangeSpec := { name := "layoutCut", fn := fun _ => fun
  | [d1, d2] => { results := [.lit (.bool false)], args := [d1, d2] }
  | _ => none }
def LayoutCutWrongFalsely : Prop := layoutCutRow.holds Try.pinned (OpenSpec.ofChange layoutCutWrong)

/-- 'keysmithlaw10.LayoutNames': WHATEVER THE INPUT: true; the input reads as it did. -/
def layoutNamesSpec : ChangeSpec := { name := "layoutNames", fn := fun _ => fun
  | [] => { results := [.lit (.bool true)], args := [] }
  | _ => none }
def layoutNamesRow : OpenClaim := { program := "ytbcaelhchmoigaa", sum := "6415cb149caad23b0bdf7876e32ed051166471a525ea5b4dbb6044f58d1ef2c1", func := "keysmith/keysmithlaw10.LayoutNames", spec := "layoutNames", unfollowed := true, recurses := true, plainKeys := false, apart := false }
def LayoutNamesSaid : Prop := layoutNamesRow.holds Try.pinned (OpenSpec.ofChange layoutNamesSpec)

/-- ITS FALSE NEIGHBOUR: 'it returns false'. Refute it at one input. -/
def layoutNamesWrong : ChangeSpec := { name := "layoutNames", fn := fun _ => fun
  | [] => { results := [.lit (.bool false)], args := [] }
  | _ => none }
def LayoutNamesWrongFalsely : Prop := layoutNamesRow.holds Try.pinned (OpenSpec.ofChange layoutNamesWrong)

/-- 'keysmithlaw10.LayoutCalls': WHATEVER THE INPUT: true; the input reads as it did. -/
def layoutCallsSpec : ChangeSpec := { name := "layoutCalls", fn := fun _ => fun
  | [d1, d2] => { results := [.lit (.bool true)], args := [d1, d2] }
  | _ => none }
def layoutCallsRow : OpenClaim := { program := "ytbcaelhchmoigaa", sum := "6415cb149caad23b0bdf7876e32ed051166471a525ea5b4dbb6044f58d1ef2c1", func := "keysmith/keysmithlaw10.LayoutCalls", spec := "layoutCalls", unfollowed := true, recurses := true, plainKeys := false, apart := false }
def LayoutCallsSaid : Prop := layoutCallsRow.holds Try.pinned (OpenSpec.ofChange layoutCallsSpec)

/-- ITS FALSE NEIGHBOUR: 'it returns false'. Refute it at one input. -/
def layoutCallsWrong : ChangeSpec := { name := "layoutCalls", fn := fun _ => fun
  | [d1, d2] => { results := [.lit (.bool false)], args := [d1, d2] }
  | _ => none }
def LayoutCallsWrongFalsely : Prop := layoutCallsRow.holds Try.pinned (OpenSpec.ofChange layoutCallsWrong)

/-- 'keysmithlaw10.LayoutBack': WHATEVER THE INPUT: true; the input reads as it did. -/
def layoutBackSpec : ChangeSpec := { name := "layoutBack", fn := fun _ => fun
  | [d1, d2] => { results := [.lit (.bool true)], args := [d1, d2] }
  | _ => none }
def layoutBackRow : OpenClaim := { program := "ytbcaelhchmoigaa", sum := "6415cb149caad23b0bdf7876e32ed051166471a525ea5b4dbb6044f58d1ef2c1", func := "keysmith/keysmithlaw10.LayoutBack", spec := "layoutBack", unfollowed := true, recurses := true, plainKeys := false, apart := false }
def LayoutBackSaid : Prop := layoutBackRow.holds Try.pinned (OpenSpec.ofChange layoutBackSpec)

/-- ITS FALSE NEIGHBOUR: 'it returns false'. Refute it at one input. -/
def layoutBackWrong : ChangeSpec := { name := "layoutBack", fn := fun _ => fun
  | [d1, d2] => { results := [.lit (.bool false)], args := [d1, d2] }
  | _ => none }
def LayoutBackWrongFalsely : Prop := layoutBackRow.holds Try.pinned (OpenSpec.ofChange layoutBackWrong)

/- THE SECOND FORM. 'bulk': how many values and letters a reading holds, each counted each time it is reached (what is shared counts as often as it is met; a slice's spare places count too). A statement '..UptoSaid' is the law's where the arguments, and the package variables that the reading takes, are together of bulk at most 1048576: NARROWER than '..Said'. Prove '..Said' where nothing that the law and all that it calls make is longer than what came in: it says more and counts as full. Else prove '..UptoSaid'. A law counts once. -/
mutual
def uptoBulk {H : Type} : DataW H → Nat
  | .lit (.string bytes) => bytes.length + 1
  | .lit _ => 1
  | .nil => 1
  | .ptr d => uptoBulk d + 1
  | .slice elems spare => uptoBulkAll elems + uptoBulkAll spare + 1
  | .agg parts => uptoBulkAll parts + 1
  | .iface _ d => uptoBulk d + 1
  | .map entries => uptoBulkEntries entries + 1
  | .held _ => 1
def uptoBulkAll {H : Type} : List (DataW H) → Nat
  | [] => 0
  | d :: r => uptoBulk d + uptoBulkAll r
def uptoBulkEntries {H : Type} : List (Lit × DataW H) → Nat
  | [] => 0
  | x :: r => uptoBulkEntry x + uptoBulkEntries r
def uptoBulkEntry {H : Type} : Lit × DataW H → Nat
  | (.string bytes, d) => bytes.length + uptoBulk d + 1
  | (_, d) => uptoBulk d + 1
 end
def uptoSmall : (H : Type) → List (DataW H) → Bool := fun _ ds => decide (uptoBulkAll ds ≤ 1048576)
def OpenSpec.upto (s : _root_.Go.ChangeSpec) : _root_.Go.OpenSpec := { _root_.Go.OpenSpec.ofChange s with cond := some uptoSmall }

/-- 'keysmithlaw10.LayoutJumps', WHERE WHAT IT READS IS OF BULK AT MOST 1048576: true; the input reads as it did. -/
def layoutJumpsUptoRow : OpenClaim := { program := "ytbcaelhchmoigaa", sum := "6415cb149caad23b0bdf7876e32ed051166471a525ea5b4dbb6044f58d1ef2c1", func := "keysmith/keysmithlaw10.LayoutJumps", spec := "layoutJumps", unfollowed := true, recurses := true, plainKeys := false, apart := false, narrowed := true }
def LayoutJumpsUptoSaid : Prop := layoutJumpsUptoRow.holds Try.pinned (OpenSpec.upto layoutJumpsSpec)

/-- 'keysmithlaw10.LayoutLabels', WHERE WHAT IT READS IS OF BULK AT MOST 1048576: true; the input reads as it did. -/
def layoutLabelsUptoRow : OpenClaim := { program := "ytbcaelhchmoigaa", sum := "6415cb149caad23b0bdf7876e32ed051166471a525ea5b4dbb6044f58d1ef2c1", func := "keysmith/keysmithlaw10.LayoutLabels", spec := "layoutLabels", unfollowed := true, recurses := true, plainKeys := false, apart := false, narrowed := true }
def LayoutLabelsUptoSaid : Prop := layoutLabelsUptoRow.holds Try.pinned (OpenSpec.upto layoutLabelsSpec)

/-- 'keysmithlaw10.LayoutCut', WHERE WHAT IT READS IS OF BULK AT MOST 1048576: true; the input reads as it did. -/
def layoutCutUptoRow : OpenClaim := { program := "ytbcaelhchmoigaa", sum := "6415cb149caad23b0bdf7876e32ed051166471a525ea5b4dbb6044f58d1ef2c1", func := "keysmith/keysmithlaw10.LayoutCut", spec := "layoutCut", unfollowed := true, recurses := true, plainKeys := false, apart := false, narrowed := true }
def LayoutCutUptoSaid : Prop := layoutCutUptoRow.holds Try.pinned (OpenSpec.upto layoutCutSpec)

/-- 'keysmithlaw10.LayoutNames', WHERE WHAT IT READS IS OF BULK AT MOST 1048576: true; the input reads as it did. -/
def layoutNamesUptoRow : OpenClaim := { program := "ytbcaelhchmoigaa", sum := "6415cb149caad23b0bdf7876e32ed051166471a525ea5b4dbb6044f58d1ef2c1", func := "keysmith/keysmithlaw10.LayoutNames", spec := "layoutNames", unfollowed := true, recurses := true, plainKeys := false, apart := false, narrowed := true }
def LayoutNamesUptoSaid : Prop := layoutNamesUptoRow.holds Try.pinned (OpenSpec.upto layoutNamesSpec)

/-- 'keysmithlaw10.LayoutCalls', WHERE WHAT IT READS IS OF BULK AT MOST 1048576: true; the input reads as it did. -/
def layoutCallsUptoRow : OpenClaim := { program := "ytbcaelhchmoigaa", sum := "6415cb149caad23b0bdf7876e32ed051166471a525ea5b4dbb6044f58d1ef2c1", func := "keysmith/keysmithlaw10.LayoutCalls", spec := "layoutCalls", unfollowed := true, recurses := true, plainKeys := false, apart := false, narrowed := true }
def LayoutCallsUptoSaid : Prop := layoutCallsUptoRow.holds Try.pinned (OpenSpec.upto layoutCallsSpec)

/-- 'keysmithlaw10.LayoutBack', WHERE WHAT IT READS IS OF BULK AT MOST 1048576: true; the input reads as it did. -/
def layoutBackUptoRow : OpenClaim := { program := "ytbcaelhchmoigaa", sum := "6415cb149caad23b0bdf7876e32ed051166471a525ea5b4dbb6044f58d1ef2c1", func := "keysmith/keysmithlaw10.LayoutBack", spec := "layoutBack", unfollowed := true, recurses := true, plainKeys := false, apart := false, narrowed := true }
def LayoutBackUptoSaid : Prop := layoutBackUptoRow.holds Try.pinned (OpenSpec.upto layoutBackSpec)

end Rows
end Go.Proofs.Ytbcaelhchmoigaa
