
/- Several texts, one behind the other. -/
import Derived.Test.YtbcaelhchmoigaaDA
set_option linter.unusedVariables false
set_option linter.unusedSimpArgs false
/- decode.Inst (layer 7). Conditions: the code is short. -/
namespace Go.Proofs.Ytbcaelhchmoigaa
open Go.RowKit Calm SL
attribute [local irreducible] SL.L SL.C SL.D SL.N SL.H

theorem cm_lo' {a b : Int} (h : b ≤ a) : cm .lss a b = false := by show decide (a < b) = false; simpa using h
theorem cm_gt' {a b : Int} (h : a ≤ b) : cm .gtr a b = false := by show decide (a > b) = false; simpa using h
/-- The window. -/
def winS (code : ByteArray) (a : Nat) : ByteArray := code.extract a (min code.size (a + 16))
theorem suf_start (s : ByteArray) : Suf s (bytesOf s, false) := ⟨0, by omega, by simp⟩
theorem bytes_byte (code : ByteArray) (a : Nat) : ∀ x ∈ (bytesOf code).drop a, Byte x := by
  intro x hx
  have hx := List.mem_of_mem_drop hx
  unfold bytesOf at hx
  obtain ⟨y, _, rfl⟩ := List.mem_map.1 hx
  have := y.toNat_lt
  show 0 ≤ (y.toNat : Int) ∧ (y.toNat : Int) ≤ 255
  omega
end Go.Proofs.Ytbcaelhchmoigaa

/- decode.Inst (layer 7): its answer is the one instruction whose bytes stand there. Conditions: the code is short. -/
namespace Go.Proofs.Ytbcaelhchmoigaa
open Go.RowKit Calm SL

theorem bytesOf_inj {x y : ByteArray} (h : bytesOf x = bytesOf y) : x = y := by rw [← strB_bytesOf x, ← strB_bytesOf y, h]
theorem sne_eq (x y : ByteArray) : sne x y = !decide (bytesOf x = bytesOf y) := by
  unfold sne
  have e : (x.toList == y.toList) = decide (bytesOf x = bytesOf y) := by
    rw [Bool.eq_iff_iff, beq_iff_eq, decide_eq_true_eq]
    constructor
    · intro h
      have : x = y := by
        have h1 := congrArg List.toArray h
        rw [ByteArray.toList_eq, ByteArray.toList_eq] at h
        cases x; cases y; simp at h; simp [h]
      rw [this]
    · intro h; rw [bytesOf_inj h]
  rw [e]
theorem bytesOf_strB {l : List Int} (h : Bytes l) : bytesOf (strB l) = l := by
  unfold bytesOf
  rw [strB_list, List.map_map]
  conv => rhs; rw [← List.map_id l]
  apply List.map_congr_left
  intro b hb
  have := h b hb
  show ((UInt8.ofNat b.toNat).toNat : Int) = b
  rw [UInt8.toNat_ofNat']
  omega
end Go.Proofs.Ytbcaelhchmoigaa

/- decode.Each: places and instructions, one by one. -/
namespace Go.Proofs.Ytbcaelhchmoigaa
open Go.RowKit Calm SL
attribute [local irreducible] SL.L SL.C SL.D SL.N SL.H

/-- The rows of places and instructions that are read. -/
def rows (l : List Int) (a : Nat) : List (Nat × Ins) :=
  if _h : l ≠ [] ∧ 0 < (rdD l).2.1 ∧ (rdD l).2.2 = 0 then (a, (rdD l).1) :: rows (l.drop (rdD l).2.1) (a + (rdD l).2.1) else []
termination_by l.length
decreasing_by
  rw [List.length_drop]
  have : 0 < l.length := List.length_pos_iff.2 _h.1
  omega
def encR (x : Nat × Ins) : List Value := [.int .i64 x.1, x.2.V]
/-- Where the rows read so far end. -/
def endAt (a : Nat) (pre : List (Nat × Ins)) : Nat := match pre.getLast? with
  | none => a
  | some (k, x) => k + x.enc.length
end Go.Proofs.Ytbcaelhchmoigaa

/- decode.All: all instructions. Conditions: the code is short. -/
namespace Go.Proofs.Ytbcaelhchmoigaa
open Go.RowKit Calm SL
attribute [local irreducible] SL.L SL.C SL.D SL.N SL.H

/-- An own slice: its value, its block. -/
def sliceV {α : Type} (xs : List α) : Option (Nat × List Value × Nat) → Value
  | none => .slice none 0 0
  | some (b, _, cap) => .slice (some ⟨b, 0, none⟩) xs.length cap
def sliceM (T : Nat) : Option (Nat × List Value × Nat) → Hp
  | none => []
  | some (b, l, _) => [(b, ob l T)]
def sliceG {α : Type} (n : Nat) (enc : α → List Value) (xs : List α) : Option (Nat × List Value × Nat) → Prop
  | none => xs = []
  | some (_, l, cap) => l.length = cap * n ∧ xs.length ≤ cap ∧ cap ≤ maxLen ∧ l.take (xs.length * n) = xs.flatMap enc
def cells9 (x : Ins) : List Value := [.int .i64 x.op, .int .i64 x.d, .int .i64 x.s, .int .i64 x.t, .int .i64 x.mb, .int .i64 x.mi, .int .i64 x.ms, .int .i64 x.md, .int .i64 x.imm]
abbrev endOf (l : List (Nat × Ins)) : Nat := endAt 0 l
end Go.Proofs.Ytbcaelhchmoigaa

/- keysmithlaw07's inner functions: lives, bad. -/
namespace Go.Proofs.Ytbcaelhchmoigaa
open Go.RowKit Calm SL
attribute [local irreducible] SL.L SL.C SL.D SL.N SL.H SL.QL

end Go.Proofs.Ytbcaelhchmoigaa
