/-
  No cell of these rows narrows 'for every input' (looked for: loops, veiled, ifaces, maps, wideKeys, modest, calm, conditions, laid).
  DERIVED. THE GIVEN ROWS OF THIS SEAT. 10 by the template 'for every input the law returns true; each argument reads behind the call as it read before'; 0 by the template 'total and deterministic' (their statements: YtakmpnmmcjnecaaTotals.lean).
  GIVEN WITH THE SEED: the statements are not yours to turn. If you find one false, say at which input.
  Laid BY PROGRAM, IN A SANDBOX (cutbox-rows.mjs): the forced cells as the released guide's own fill.sh prints them over the translation ecb833bf105fb252… (all of the seat's roots in one cut). By AI agents, Wed Nov 11 2026. No macro, syntax, notation, axiom, sorry.
-/
import Derived.Test.YtakmpnmmcjnecaaChecked
import GoSem.Claim
import GoSem.ClaimJoined
import GoSem.ClaimMapViews
import Derived.JoinedTies
import Derived.KernelRfl
namespace Go.Proofs.Ytakmpnmmcjnecaa
/- THE CELL 'sum', in the pinned program and in every row, IS THE sha256 OF THE DUMP (.gsa) THAT YtakmpnmmcjnecaaProg.lean LOADS. Nothing in Lean hashes anything: it is a label: what it is worth is what the hold of that sum in a sandbox is worth. -/
noncomputable def Try.pinned : Pinned := { name := "ytakmpnmmcjnecaa", sum := "ecb833bf105fb252ec788e1842e159745d7848ba6b9ea40fd1352f6be3fe1ce7", checked := Try.checked }
namespace Rows
def none {H : Type} : Left H := { results := [], args := [] }

/-- 'keysmithlaw06.EncodeNumbers': WHATEVER THE INPUT: true; the input reads as it did. -/
def encodeNumbersSpec : ChangeSpec := { name := "encodeNumbers", fn := fun _ => fun
  | [d1, d2] => { results := [.lit (.bool true)], args := [d1, d2] }
  | _ => none }
def encodeNumbersRow : OpenClaim := { program := "ytakmpnmmcjnecaa", sum := "ecb833bf105fb252ec788e1842e159745d7848ba6b9ea40fd1352f6be3fe1ce7", func := "keysmith/keysmithlaw06.EncodeNumbers", spec := "encodeNumbers", unfollowed := true, recurses := true, plainKeys := false, apart := false }
def EncodeNumbersSaid : Prop := encodeNumbersRow.holds Try.pinned (OpenSpec.ofChange encodeNumbersSpec)

/-- ITS FALSE NEIGHBOUR: 'it returns false'. Refute it at one input. -/
def encodeNumbersWrong : ChangeSpec := { name := "encodeNumbers", fn := fun _ => fun
  | [d1, d2] => { results := [.lit (.bool false)], args := [d1, d2] }
  | _ => none }
def EncodeNumbersWrongFalsely : Prop := encodeNumbersRow.holds Try.pinned (OpenSpec.ofChange encodeNumbersWrong)

/-- 'keysmithlaw06.EncodeRegisters': WHATEVER THE INPUT: true; the input reads as it did. -/
def encodeRegistersSpec : ChangeSpec := { name := "encodeRegisters", fn := fun _ => fun
  | [d1, d2, d3] => { results := [.lit (.bool true)], args := [d1, d2, d3] }
  | _ => none }
def encodeRegistersRow : OpenClaim := { program := "ytakmpnmmcjnecaa", sum := "ecb833bf105fb252ec788e1842e159745d7848ba6b9ea40fd1352f6be3fe1ce7", func := "keysmith/keysmithlaw06.EncodeRegisters", spec := "encodeRegisters", unfollowed := true, recurses := true, plainKeys := false, apart := false }
def EncodeRegistersSaid : Prop := encodeRegistersRow.holds Try.pinned (OpenSpec.ofChange encodeRegistersSpec)

/-- ITS FALSE NEIGHBOUR: 'it returns false'. Refute it at one input. -/
def encodeRegistersWrong : ChangeSpec := { name := "encodeRegisters", fn := fun _ => fun
  | [d1, d2, d3] => { results := [.lit (.bool false)], args := [d1, d2, d3] }
  | _ => none }
def EncodeRegistersWrongFalsely : Prop := encodeRegistersRow.holds Try.pinned (OpenSpec.ofChange encodeRegistersWrong)

/-- 'keysmithlaw06.EncodeNames': WHATEVER THE INPUT: true; the input reads as it did. -/
def encodeNamesSpec : ChangeSpec := { name := "encodeNames", fn := fun _ => fun
  | [] => { results := [.lit (.bool true)], args := [] }
  | _ => none }
def encodeNamesRow : OpenClaim := { program := "ytakmpnmmcjnecaa", sum := "ecb833bf105fb252ec788e1842e159745d7848ba6b9ea40fd1352f6be3fe1ce7", func := "keysmith/keysmithlaw06.EncodeNames", spec := "encodeNames", unfollowed := true, recurses := true, plainKeys := false, apart := false }
def EncodeNamesSaid : Prop := encodeNamesRow.holds Try.pinned (OpenSpec.ofChange encodeNamesSpec)

/-- ITS FALSE NEIGHBOUR: 'it returns false'. Refute it at one input. -/
def encodeNamesWrong : ChangeSpec := { name := "encodeNames", fn := fun _ => fun
  | [] => { results := [.lit (.bool false)], args := [] }
  | _ => none }
def EncodeNamesWrongFalsely : Prop := encodeNamesRow.holds Try.pinned (OpenSpec.ofChange encodeNamesWrong)

/-- 'keysmithlaw06.EncodeCalls': WHATEVER THE INPUT: true; the input reads as it did. -/
def encodeCallsSpec : ChangeSpec := { name := "encodeCalls", fn := fun _ => fun
  | [d1, d2] => { results := [.lit (.bool true)], args := [d1, d2] }
  | _ => none }
def encodeCallsRow : OpenClaim := { program := "ytakmpnmmcjnecaa", sum := "ecb833bf105fb252ec788e1842e159745d7848ba6b9ea40fd1352f6be3fe1ce7", func := "keysmith/keysmithlaw06.EncodeCalls", spec := "encodeCalls", unfollowed := true, recurses := true, plainKeys := false, apart := false }
def EncodeCallsSaid : Prop := encodeCallsRow.holds Try.pinned (OpenSpec.ofChange encodeCallsSpec)

/-- ITS FALSE NEIGHBOUR: 'it returns false'. Refute it at one input. -/
def encodeCallsWrong : ChangeSpec := { name := "encodeCalls", fn := fun _ => fun
  | [d1, d2] => { results := [.lit (.bool false)], args := [d1, d2] }
  | _ => none }
def EncodeCallsWrongFalsely : Prop := encodeCallsRow.holds Try.pinned (OpenSpec.ofChange encodeCallsWrong)

/-- 'keysmithlaw06.EncodeApart': WHATEVER THE INPUT: true; the input reads as it did. -/
def encodeApartSpec : ChangeSpec := { name := "encodeApart", fn := fun _ => fun
  | [d1, d2] => { results := [.lit (.bool true)], args := [d1, d2] }
  | _ => none }
def encodeApartRow : OpenClaim := { program := "ytakmpnmmcjnecaa", sum := "ecb833bf105fb252ec788e1842e159745d7848ba6b9ea40fd1352f6be3fe1ce7", func := "keysmith/keysmithlaw06.EncodeApart", spec := "encodeApart", unfollowed := true, recurses := true, plainKeys := false, apart := false }
def EncodeApartSaid : Prop := encodeApartRow.holds Try.pinned (OpenSpec.ofChange encodeApartSpec)

/-- ITS FALSE NEIGHBOUR: 'it returns false'. Refute it at one input. -/
def encodeApartWrong : ChangeSpec := { name := "encodeApart", fn := fun _ => fun
  | [d1, d2] => { results := [.lit (.bool false)], args := [d1, d2] }
  | _ => none }
def EncodeApartWrongFalsely : Prop := encodeApartRow.holds Try.pinned (OpenSpec.ofChange encodeApartWrong)

/-- 'keysmithlaw07.DecodeNames': WHATEVER THE INPUT: true; the input reads as it did. -/
def decodeNamesSpec : ChangeSpec := { name := "decodeNames", fn := fun _ => fun
  | [] => { results := [.lit (.bool true)], args := [] }
  | _ => none }
def decodeNamesRow : OpenClaim := { program := "ytakmpnmmcjnecaa", sum := "ecb833bf105fb252ec788e1842e159745d7848ba6b9ea40fd1352f6be3fe1ce7", func := "keysmith/keysmithlaw07.DecodeNames", spec := "decodeNames", unfollowed := true, recurses := true, plainKeys := false, apart := false }
def DecodeNamesSaid : Prop := decodeNamesRow.holds Try.pinned (OpenSpec.ofChange decodeNamesSpec)

/-- ITS FALSE NEIGHBOUR: 'it returns false'. Refute it at one input. -/
def decodeNamesWrong : ChangeSpec := { name := "decodeNames", fn := fun _ => fun
  | [] => { results := [.lit (.bool false)], args := [] }
  | _ => none }
def DecodeNamesWrongFalsely : Prop := decodeNamesRow.holds Try.pinned (OpenSpec.ofChange decodeNamesWrong)

/-- 'keysmithlaw07.DecodeCalls': WHATEVER THE INPUT: true; the input reads as it did. -/
def decodeCallsSpec : ChangeSpec := { name := "decodeCalls", fn := fun _ => fun
  | [d1, d2] => { results := [.lit (.bool true)], args := [d1, d2] }
  | _ => none }
def decodeCallsRow : OpenClaim := { program := "ytakmpnmmcjnecaa", sum := "ecb833bf105fb252ec788e1842e159745d7848ba6b9ea40fd1352f6be3fe1ce7", func := "keysmith/keysmithlaw07.DecodeCalls", spec := "decodeCalls", unfollowed := true, recurses := true, plainKeys := false, apart := false }
def DecodeCallsSaid : Prop := decodeCallsRow.holds Try.pinned (OpenSpec.ofChange decodeCallsSpec)

/-- ITS FALSE NEIGHBOUR: 'it returns false'. Refute it at one input. -/
def decodeCallsWrong : ChangeSpec := { name := "decodeCalls", fn := fun _ => fun
  | [d1, d2] => { results := [.lit (.bool false)], args := [d1, d2] }
  | _ => none }
def DecodeCallsWrongFalsely : Prop := decodeCallsRow.holds Try.pinned (OpenSpec.ofChange decodeCallsWrong)

/-- 'keysmithlaw07.DecodeBack': WHATEVER THE INPUT: true; the input reads as it did. -/
def decodeBackSpec : ChangeSpec := { name := "decodeBack", fn := fun _ => fun
  | [d1, d2, d3] => { results := [.lit (.bool true)], args := [d1, d2, d3] }
  | _ => none }
def decodeBackRow : OpenClaim := { program := "ytakmpnmmcjnecaa", sum := "ecb833bf105fb252ec788e1842e159745d7848ba6b9ea40fd1352f6be3fe1ce7", func := "keysmith/keysmithlaw07.DecodeBack", spec := "decodeBack", unfollowed := true, recurses := true, plainKeys := false, apart := false }
def DecodeBackSaid : Prop := decodeBackRow.holds Try.pinned (OpenSpec.ofChange decodeBackSpec)

/-- ITS FALSE NEIGHBOUR: 'it returns false'. Refute it at one input. -/
def decodeBackWrong : ChangeSpec := { name := "decodeBack", fn := fun _ => fun
  | [d1, d2, d3] => { results := [.lit (.bool false)], args := [d1, d2, d3] }
  | _ => none }
def DecodeBackWrongFalsely : Prop := decodeBackRow.holds Try.pinned (OpenSpec.ofChange decodeBackWrong)

/-- 'keysmithlaw07.DecodeCut': WHATEVER THE INPUT: true; the input reads as it did. -/
def decodeCutSpec : ChangeSpec := { name := "decodeCut", fn := fun _ => fun
  | [d1, d2, d3] => { results := [.lit (.bool true)], args := [d1, d2, d3] }
  | _ => none }
def decodeCutRow : OpenClaim := { program := "ytakmpnmmcjnecaa", sum := "ecb833bf105fb252ec788e1842e159745d7848ba6b9ea40fd1352f6be3fe1ce7", func := "keysmith/keysmithlaw07.DecodeCut", spec := "decodeCut", unfollowed := true, recurses := true, plainKeys := false, apart := false }
def DecodeCutSaid : Prop := decodeCutRow.holds Try.pinned (OpenSpec.ofChange decodeCutSpec)

/-- ITS FALSE NEIGHBOUR: 'it returns false'. Refute it at one input. -/
def decodeCutWrong : ChangeSpec := { name := "decodeCut", fn := fun _ => fun
  | [d1, d2, d3] => { results := [.lit (.bool false)], args := [d1, d2, d3] }
  | _ => none }
def DecodeCutWrongFalsely : Prop := decodeCutRow.holds Try.pinned (OpenSpec.ofChange decodeCutWrong)

/-- 'keysmithlaw07.DecodeEach': WHATEVER THE INPUT: true; the input reads as it did. -/
def decodeEachSpec : ChangeSpec := { name := "decodeEach", fn := fun _ => fun
  | [d1, d2] => { results := [.lit (.bool true)], args := [d1, d2] }
  | _ => none }
def decodeEachRow : OpenClaim := { program := "ytakmpnmmcjnecaa", sum := "ecb833bf105fb252ec788e1842e159745d7848ba6b9ea40fd1352f6be3fe1ce7", func := "keysmith/keysmithlaw07.DecodeEach", spec := "decodeEach", unfollowed := true, recurses := true, plainKeys := false, apart := false }
def DecodeEachSaid : Prop := decodeEachRow.holds Try.pinned (OpenSpec.ofChange decodeEachSpec)

/-- ITS FALSE NEIGHBOUR: 'it returns false'. Refute it at one input. -/
def decodeEachWrong : ChangeSpec := { name := "decodeEach", fn := fun _ => fun
  | [d1, d2] => { results := [.lit (.bool false)], args := [d1, d2] }
  | _ => none }
def DecodeEachWrongFalsely : Prop := decodeEachRow.holds Try.pinned (OpenSpec.ofChange decodeEachWrong)

/- THE SECOND FORM. 'bulk': how many values and letters a reading holds, each counted each time it is reached (what is shared counts as often as it is met; a slice's spare places count too). A statement '..UptoSaid' is the law's where the arguments, and the package variables that the reading takes, are together of bulk at most 1048576: NARROWER than '..Said'. Prove '..Said' where nothing that the law and all that it calls make is longer than what came in: it says more and counts as full. Else prove '..UptoSaid'. A law counts once. -/
mutual
def uptoBulk {H : Type} : DataW H → Nat
  | .lit (.string bytes) => bytes.length + 1
  | .lit _ => 1
  | .nil => 1
  | .ptr d => uptoBulk d + 1
  | .slice elems spare => uptoBulkAll elems + uptoBulkAll spare + 1
  | .agg parts => uptoBulkAll parts + 1
  | .iface _ d => uptoBulk d + 1
  | .map entries => uptoBulkEntries entries + 1
  | .held _ => 1
def uptoBulkAll {H : Type} : List (DataW H) → Nat
  | [] => 0
  | d :: r => uptoBulk d + uptoBulkAll r
def uptoBulkEntries {H : Type} : List (Lit × DataW H) → Nat
  | [] => 0
  | x :: r => uptoBulkEntry x + uptoBulkEntries r
def uptoBulkEntry {H : Type} : Lit × DataW H → Nat
  | (.string bytes, d) => bytes.length + uptoBulk d + 1
  | (_, d) => uptoBulk d + 1
 end
def uptoSmall : (H : Type) → List (DataW H) → Bool := fun _ ds => decide (uptoBulkAll ds ≤ 1048576)
def OpenSpec.upto (s : _root_.Go.ChangeSpec) : _root_.Go.OpenSpec := { _root_.Go.OpenSpec.ofChange s with cond := some uptoSmall }

/-- 'keysmithlaw06.EncodeNumbers', WHERE WHAT IT READS IS OF BULK AT MOST 1048576: true; the input reads as it did. -/
def encodeNumbersUptoRow : OpenClaim := { program := "ytakmpnmmcjnecaa", sum := "ecb833bf105fb252ec788e1842e159745d7848ba6b9ea40fd1352f6be3fe1ce7", func := "keysmith/keysmithlaw06.EncodeNumbers", spec := "encodeNumbers", unfollowed := true, recurses := true, plainKeys := false, apart := false, narrowed := true }
def EncodeNumbersUptoSaid : Prop := encodeNumbersUptoRow.holds Try.pinned (OpenSpec.upto encodeNumbersSpec)

/-- 'keysmithlaw06.EncodeRegisters', WHERE WHAT IT READS IS OF BULK AT MOST 1048576: true; the input reads as it did. -/
def encodeRegistersUptoRow : OpenClaim := { program := "ytakmpnmmcjnecaa", sum := "ecb833bf105fb252ec788e1842e159745d7848ba6b9ea40fd1352f6be3fe1ce7", func := "keysmith/keysmithlaw06.EncodeRegisters", spec := "encodeRegisters", unfollowed := true, recurses := true, plainKeys := false, apart := false, narrowed := true }
def EncodeRegistersUptoSaid : Prop := encodeRegistersUptoRow.holds Try.pinned (OpenSpec.upto encodeRegistersSpec)

/-- 'keysmithlaw06.EncodeNames', WHERE WHAT IT READS IS OF BULK AT MOST 1048576: true; the input reads as it did. -/
def encodeNamesUptoRow : OpenClaim := { program := "ytakmpnmmcjnecaa", sum := "ecb833bf105fb252ec788e1842e159745d7848ba6b9ea40fd1352f6be3fe1ce7", func := "keysmith/keysmithlaw06.EncodeNames", spec := "encodeNames", unfollowed := true, recurses := true, plainKeys := false, apart := false, narrowed := true }
def EncodeNamesUptoSaid : Prop := encodeNamesUptoRow.holds Try.pinned (OpenSpec.upto encodeNamesSpec)

/-- 'keysmithlaw06.EncodeCalls', WHERE WHAT IT READS IS OF BULK AT MOST 1048576: true; the input reads as it did. -/
def encodeCallsUptoRow : OpenClaim := { program := "ytakmpnmmcjnecaa", sum := "ecb833bf105fb252ec788e1842e159745d7848ba6b9ea40fd1352f6be3fe1ce7", func := "keysmith/keysmithlaw06.EncodeCalls", spec := "encodeCalls", unfollowed := true, recurses := true, plainKeys := false, apart := false, narrowed := true }
def EncodeCallsUptoSaid : Prop := encodeCallsUptoRow.holds Try.pinned (OpenSpec.upto encodeCallsSpec)

/-- 'keysmithlaw06.EncodeApart', WHERE WHAT IT READS IS OF BULK AT MOST 1048576: true; the input reads as it did. -/
def encodeApartUptoRow : OpenClaim := { program := "ytakmpnmmcjnecaa", sum := "ecb833bf105fb252ec788e1842e159745d7848ba6b9ea40fd1352f6be3fe1ce7", func := "keysmith/keysmithlaw06.EncodeApart", spec := "encodeApart", unfollowed := true, recurses := true, plainKeys := false, apart := false, narrowed := true }
def EncodeApartUptoSaid : Prop := encodeApartUptoRow.holds Try.pinned (OpenSpec.upto encodeApartSpec)

/-- 'keysmithlaw07.DecodeNames', WHERE WHAT IT READS IS OF BULK AT MOST 1048576: true; the input reads as it did. -/
def decodeNamesUptoRow : OpenClaim := { program := "ytakmpnmmcjnecaa", sum := "ecb833bf105fb252ec788e1842e159745d7848ba6b9ea40fd1352f6be3fe1ce7", func := "keysmith/keysmithlaw07.DecodeNames", spec := "decodeNames", unfollowed := true, recurses := true, plainKeys := false, apart := false, narrowed := true }
def DecodeNamesUptoSaid : Prop := decodeNamesUptoRow.holds Try.pinned (OpenSpec.upto decodeNamesSpec)

/-- 'keysmithlaw07.DecodeCalls', WHERE WHAT IT READS IS OF BULK AT MOST 1048576: true; the input reads as it did. -/
def decodeCallsUptoRow : OpenClaim := { program := "ytakmpnmmcjnecaa", sum := "ecb833bf105fb252ec788e1842e159745d7848ba6b9ea40fd1352f6be3fe1ce7", func := "keysmith/keysmithlaw07.DecodeCalls", spec := "decodeCalls", unfollowed := true, recurses := true, plainKeys := false, apart := false, narrowed := true }
def DecodeCallsUptoSaid : Prop := decodeCallsUptoRow.holds Try.pinned (OpenSpec.upto decodeCallsSpec)

/-- 'keysmithlaw07.DecodeBack', WHERE WHAT IT READS IS OF BULK AT MOST 1048576: true; the input reads as it did. -/
def decodeBackUptoRow : OpenClaim := { program := "ytakmpnmmcjnecaa", sum := "ecb833bf105fb252ec788e1842e159745d7848ba6b9ea40fd1352f6be3fe1ce7", func := "keysmith/keysmithlaw07.DecodeBack", spec := "decodeBack", unfollowed := true, recurses := true, plainKeys := false, apart := false, narrowed := true }
def DecodeBackUptoSaid : Prop := decodeBackUptoRow.holds Try.pinned (OpenSpec.upto decodeBackSpec)

/-- 'keysmithlaw07.DecodeCut', WHERE WHAT IT READS IS OF BULK AT MOST 1048576: true; the input reads as it did. -/
def decodeCutUptoRow : OpenClaim := { program := "ytakmpnmmcjnecaa", sum := "ecb833bf105fb252ec788e1842e159745d7848ba6b9ea40fd1352f6be3fe1ce7", func := "keysmith/keysmithlaw07.DecodeCut", spec := "decodeCut", unfollowed := true, recurses := true, plainKeys := false, apart := false, narrowed := true }
def DecodeCutUptoSaid : Prop := decodeCutUptoRow.holds Try.pinned (OpenSpec.upto decodeCutSpec)

/-- 'keysmithlaw07.DecodeEach', WHERE WHAT IT READS IS OF BULK AT MOST 1048576: true; the input reads as it did. -/
def decodeEachUptoRow : OpenClaim := { program := "ytakmpnmmcjnecaa", sum := "ecb833bf105fb252ec788e1842e159745d7848ba6b9ea40fd1352f6be3fe1ce7", func := "keysmith/keysmithlaw07.DecodeEach", spec := "decodeEach", unfollowed := true, recurses := true, plainKeys := false, apart := false, narrowed := true }
def DecodeEachUptoSaid : Prop := decodeEachUptoRow.holds Try.pinned (OpenSpec.upto decodeEachSpec)

end Rows
end Go.Proofs.Ytakmpnmmcjnecaa
