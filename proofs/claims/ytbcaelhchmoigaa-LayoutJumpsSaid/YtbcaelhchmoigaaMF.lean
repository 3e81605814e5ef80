
/- Several texts, one behind the other. -/
import Derived.Test.YtbcaelhchmoigaaME
import Derived.BigQuiet
import Derived.Laws.BitsAllLaws
set_option linter.unusedVariables false
set_option linter.unusedSimpArgs false
/- decode.cursor (layer 7): a byte is taken. Conditions: the cursor is one. -/
namespace Go.Proofs.Ytbcaelhchmoigaa
open Go.RowKit Calm

structure KeepBut (b : Nat) (w w' : World) : Prop where
  os : w'.os = w.os
  tape : w'.tape = w.tape
  output : w'.output = w.output
  size : w.heap.size ≤ w'.heap.size
  block : ∀ k, k < w.heap.size → k ≠ b → w'.heap[k]? = w.heap[k]?
/-- The cursor in block b: its string, how many were taken, were there too few. -/
def CurN (w : World) (b : Nat) (s : ByteArray) (n : Nat) (k : Bool) : Prop := n ≤ s.size ∧ w.heap[b]? = some (.cells #[.string s, .int .i64 n, .bool k] 112)
def CurA (w : World) (b : Nat) (s : ByteArray) (c : Cur) : Prop := ∃ n, CurN w b s n c.2 ∧ c.1 = (bytesOf s).drop n
theorem drop_nx (s : ByteArray) (n : Nat) (k : Bool) (h : n < s.size) : nx ((bytesOf s).drop n, k) = ((s[n].toNat : Int), (bytesOf s).drop (n + 1), k) := by
  have hl : n < (bytesOf s).length := by rw [bytesOf_length]; exact h
  rw [List.drop_eq_getElem_cons hl, nx_cons]
  have : (bytesOf s)[n] = (s[n].toNat : Int) := by
    have e := List.getElem?_map (f := fun b : UInt8 => (b.toNat : Int)) (l := s.data.toList) (i := n)
    rw [get_list s n h] at e
    have e2 : (bytesOf s)[n]? = some (s[n].toNat : Int) := e
    rw [List.getElem?_eq_getElem hl] at e2
    exact Option.some.inj e2
  rw [this]
theorem drop_end (s : ByteArray) (n : Nat) (k : Bool) (h : n = s.size) : nx ((bytesOf s).drop n, k) = (0, (bytesOf s).drop n, true) := by
  have : (bytesOf s).drop n = [] := by rw [List.drop_eq_nil_iff, bytesOf_length]; omega
  rw [this]; rfl
theorem wrap_nat {n : Int} (h : 0 ≤ n ∧ n ≤ 2000000) : IntKind.i64.wrap n = n := by
  simp only [IntKind.wrap, IntKind.bits, IntKind.signed]
  simp
  split <;> omega
end Go.Proofs.Ytbcaelhchmoigaa

/- decode.cursor, decode.rex (layer 7): registers out of bytes; skip, number. Conditions: bytes are bytes. -/
namespace Go.Proofs.Ytbcaelhchmoigaa
open Go.RowKit Calm

def Byte (x : Int) : Prop := 0 ≤ x ∧ x ≤ 255
/-- The bytes taken one by one. -/
def skipD : Nat → Cur → Cur
  | 0, c => c
  | k + 1, c => (nx (skipD k c)).2
theorem valD_skip (k : Nat) (c : Cur) : (valD (k + 1) c).2 = (nx (valD k c).2).2 ∧ (valD (k + 1) c).1 = (valD k c).1 + 256 ^ k * (nx (valD k c).2).1 := by
  induction k generalizing c with
  | zero => simp [valD]
  | succ k ih =>
    obtain ⟨h1, h2⟩ := ih (nx c).2
    constructor
    · rw [valD, h1]; rfl
    · have e1 : (valD (k + 1 + 1) c).1 = (nx c).1 + 256 * (valD (k + 1) (nx c).2).1 := rfl
      have e2 : (valD (k + 1) c).1 = (nx c).1 + 256 * (valD k (nx c).2).1 := rfl
      have e3 : (valD (k + 1) c).2 = (valD k (nx c).2).2 := rfl
      rw [e1, h2, e2, e3, Int.mul_add, Int.pow_succ, Int.add_assoc, Int.mul_comm (256 ^ k) 256, Int.mul_assoc]
end Go.Proofs.Ytbcaelhchmoigaa

/- decode.cursor.number (layer 7). Conditions: the cursor is one. -/
namespace Go.Proofs.Ytbcaelhchmoigaa
open Go.RowKit Calm

theorem or_high (x y : Int) (j : Nat) (hj : j ≤ 56) (hx : 0 ≤ x ∧ x < 2 ^ j) (hy : 0 ≤ y ∧ y ≤ 255) : bits BinOp.or IntKind.u64 x (y * 2 ^ j) = x + 2 ^ j * y := by
  obtain ⟨m, rfl⟩ : ∃ m : Nat, x = m := ⟨x.toNat, by omega⟩
  obtain ⟨n, rfl⟩ : ∃ n : Nat, y = n := ⟨y.toNat, by omega⟩
  have hm : m < 2 ^ j := by have := hx.2; exact_mod_cast this
  have hn : n ≤ 255 := by omega
  have hp : (2 : Nat) ^ j ≤ 2 ^ 56 := Nat.pow_le_pow_right (by decide) hj
  have e : ((n : Int) * 2 ^ j) = ((n * 2 ^ j : Nat) : Int) := by push_cast; rfl
  have hb : n * 2 ^ j < 18446744073709551616 := by
    have h1 : n * 2 ^ j ≤ 255 * 2 ^ 56 := Nat.mul_le_mul hn hp
    have h2 : 255 * 2 ^ 56 < 18446744073709551616 := by decide
    omega
  have ha : m < 18446744073709551616 := by
    have : (2 : Nat) ^ 56 < 18446744073709551616 := by decide
    omega
  rw [e, u64_or_nat _ _ ha hb, Nat.or_comm]
  have := Nat.shiftLeft_add_eq_or_of_lt hm n
  rw [Nat.shiftLeft_eq] at this
  rw [← this]
  push_cast
  rw [Int.mul_comm, Int.add_comm]
/-- A cursor's rest is bytes. -/
def RestB (c : Cur) : Prop := ∀ x ∈ c.1, Byte x
theorem RestB.nx {c : Cur} (h : RestB c) : Byte (nx c).1 ∧ RestB (nx c).2 := by
  obtain ⟨l, k⟩ := c
  cases l with
  | nil => exact ⟨⟨by show (0 : Int) ≤ 0; omega, by show (0 : Int) ≤ 255; omega⟩, fun x hx => by simp [Go.Proofs.Ytbcaelhchmoigaa.nx] at hx⟩
  | cons x r => exact ⟨h x List.mem_cons_self, fun y hy => h y (List.mem_cons_of_mem _ hy)⟩
theorem rest_val {c : Cur} (h : RestB c) : ∀ k : Nat, RestB (valD k c).2 ∧ 0 ≤ (valD k c).1 ∧ (valD k c).1 < 2 ^ (8 * k)
  | 0 => ⟨h, by show (0 : Int) ≤ 0; omega, by show (0 : Int) < 1; omega⟩
  | k + 1 => by
    obtain ⟨h1, h2, h3⟩ := rest_val h k
    obtain ⟨e1, e2⟩ := valD_skip k c
    obtain ⟨⟨b1, b2⟩, hr⟩ := h1.nx
    refine ⟨by rw [e1]; exact hr, ?_, ?_⟩
    · rw [e2]
      have : (0 : Int) ≤ 256 ^ k * (nx (valD k c).2).1 := Int.mul_nonneg (Int.pow_nonneg (by omega)) b1
      omega
    · rw [e2]
      have hp : (256 : Int) ^ k = 2 ^ (8 * k) := by rw [Int.pow_mul]; rfl
      have hq : (2 : Int) ^ (8 * (k + 1)) = 2 ^ (8 * k) * 256 := by rw [show 8 * (k + 1) = 8 * k + 8 by omega, Int.pow_add]; rfl
      rw [hp, hq]
      have hpos : (0 : Int) < 2 ^ (8 * k) := Int.pow_pos (by omega)
      have : (2 : Int) ^ (8 * k) * (nx (valD k c).2).1 ≤ 2 ^ (8 * k) * 255 := Int.mul_le_mul_of_nonneg_left b2 (by omega)
      omega
theorem sgn_1 (V : Int) (h : 0 ≤ V ∧ V < 256) : wrap64 (V * 72057594037927936) / 72057594037927936 = sgnD 1 V := by
  rcases Int.lt_or_le V (half 1) with h1 | h1
  · rw [sgn_lo h1]; rw [half1] at h1; unfold wrap64; omega
  · rw [sgn_hi h1]; rw [half1] at h1 ⊢; unfold wrap64; omega
theorem sgn_4 (V : Int) (h : 0 ≤ V ∧ V < 4294967296) : wrap64 (V * 4294967296) / 4294967296 = sgnD 4 V := by
  rcases Int.lt_or_le V (half 4) with h1 | h1
  · rw [sgn_lo h1]; rw [half4] at h1; unfold wrap64; omega
  · rw [sgn_hi h1]; rw [half4] at h1 ⊢; unfold wrap64; omega
theorem sgn_8 (V : Int) (h : 0 ≤ V ∧ V < 18446744073709551616) : wrap64 V = sgnD 8 V := by
  rcases Int.lt_or_le V (half 8) with h1 | h1
  · rw [sgn_lo h1]; rw [half8] at h1; unfold wrap64; omega
  · rw [sgn_hi h1]; rw [half8] at h1 ⊢; unfold wrap64; omega
end Go.Proofs.Ytbcaelhchmoigaa
