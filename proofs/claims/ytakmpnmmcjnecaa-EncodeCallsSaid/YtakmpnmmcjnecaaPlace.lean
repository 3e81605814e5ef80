/- encode.place (layer 6): the bytes of a place. -/
import Derived.Test.YtakmpnmmcjnecaaWays
import Derived.StillTailTactics
import Derived.Deep.RegionHeld3
import Derived.BigGuardPart
namespace Go.Proofs.Ytakmpnmmcjnecaa
open Go.RowKit Calm

theorem low_same (r : Int) (w : World) (h : 0 ≤ r ∧ r ≤ 15) : Calls Try.prog 81 #[.int .i64 r] w fun e w' => e = .returned (.int .u8 (loR r)) ∧ w' = w :=
  (low_any r w h).mono fun _ _ ⟨a, b⟩ => ⟨a, b.symm⟩
def rmI (mod mid last : Int) : Int := 64 * mod + 8 * loR mid + last
theorem or_all : ∀ a ∈ List.range 8, ∀ b ∈ List.range 8, ∀ m ∈ ([0, 1, 2] : List Nat), bits BinOp.or IntKind.u8 (bits BinOp.or IntKind.u8 (64 * (m : Int)) ((a : Int) * 8)) (b : Int) = 64 * (m : Int) + 8 * (a : Int) + (b : Int) := by decide +kernel
theorem or_of (m : Nat) (hm : m ∈ ([0, 1, 2] : List Nat)) (a b : Int) (ha : 0 ≤ a ∧ a ≤ 7) (hb : 0 ≤ b ∧ b ≤ 7) : bits BinOp.or IntKind.u8 (bits BinOp.or IntKind.u8 (64 * (m : Int)) (a * 8)) b = 64 * (m : Int) + 8 * a + b := by
  have h := or_all a.toNat (by rw [List.mem_range]; omega) b.toNat (by rw [List.mem_range]; omega) m hm
  rw [show ((a.toNat : Nat) : Int) = a by omega, show ((b.toNat : Nat) : Int) = b by omega] at h
  exact h
theorem rm_64 (mid mb : Int) : bits BinOp.or IntKind.u8 (bits BinOp.or IntKind.u8 64 (loR mid * 8)) (loR mb) = rmI 1 mid (loR mb) := or_of 1 (by decide) _ _ (loR_in mid) (loR_in mb)
theorem rm_128 (mid mb : Int) : bits BinOp.or IntKind.u8 (bits BinOp.or IntKind.u8 128 (loR mid * 8)) (loR mb) = rmI 2 mid (loR mb) := or_of 2 (by decide) _ _ (loR_in mid) (loR_in mb)
theorem rm_0 (mid mb : Int) : bits BinOp.or IntKind.u8 (bits BinOp.or IntKind.u8 0 (loR mid * 8)) (loR mb) = rmI 0 mid (loR mb) := or_of 0 (by decide) _ _ (loR_in mid) (loR_in mb)
def sibI (ms x mb : Int) : Int := 64 * scaleI ms + 8 * x + loR mb
theorem or_all3 : ∀ a ∈ List.range 8, ∀ b ∈ List.range 8, ∀ m ∈ List.range 4, bits BinOp.or IntKind.u8 (bits BinOp.or IntKind.u8 ((m : Int) * 64 % 256) ((a : Int) * 8)) (b : Int) = 64 * (m : Int) + 8 * (a : Int) + (b : Int) := by decide +kernel
theorem or_of3 (m a b : Int) (hm : 0 ≤ m ∧ m ≤ 3) (ha : 0 ≤ a ∧ a ≤ 7) (hb : 0 ≤ b ∧ b ≤ 7) : bits BinOp.or IntKind.u8 (bits BinOp.or IntKind.u8 (m * 64 % 256) (a * 8)) b = 64 * m + 8 * a + b := by
  have h := or_all3 a.toNat (by rw [List.mem_range]; omega) b.toNat (by rw [List.mem_range]; omega) m.toNat (by rw [List.mem_range]; omega)
  rw [show ((a.toNat : Nat) : Int) = a by omega, show ((b.toNat : Nat) : Int) = b by omega, show ((m.toNat : Nat) : Int) = m by omega] at h
  exact h
theorem or_all4 : ∀ a ∈ List.range 8, ∀ b ∈ List.range 8, bits BinOp.or IntKind.u8 (128 + (a : Int) * 8) (b : Int) = 64 * 2 + 8 * (a : Int) + (b : Int) := by decide +kernel
theorem or_of4 (a b : Int) (ha : 0 ≤ a ∧ a ≤ 7) (hb : 0 ≤ b ∧ b ≤ 7) : bits BinOp.or IntKind.u8 (128 + a * 8) b = 64 * 2 + 8 * a + b := by
  have h := or_all4 a.toNat (by rw [List.mem_range]; omega) b.toNat (by rw [List.mem_range]; omega)
  rw [show ((a.toNat : Nat) : Int) = a by omega, show ((b.toNat : Nat) : Int) = b by omega] at h
  exact h
theorem scaleI_in (s : Int) : 0 ≤ scaleI s ∧ scaleI s ≤ 3 := by unfold scaleI; split <;> (try split) <;> (try split) <;> omega
theorem rmS_0 (mid x : Int) (hx : 0 ≤ x ∧ x ≤ 7) : bits BinOp.or IntKind.u8 (bits BinOp.or IntKind.u8 0 (loR mid * 8)) x = rmI 0 mid x := or_of3 0 _ x (by omega) (loR_in mid) hx
theorem rmS_64 (mid x : Int) (hx : 0 ≤ x ∧ x ≤ 7) : bits BinOp.or IntKind.u8 (bits BinOp.or IntKind.u8 64 (loR mid * 8)) x = rmI 1 mid x := or_of3 1 _ x (by omega) (loR_in mid) hx
theorem rmS_128 (mid x : Int) (hx : 0 ≤ x ∧ x ≤ 7) : bits BinOp.or IntKind.u8 (128 + loR mid * 8) x = rmI 2 mid x := or_of4 _ x (loR_in mid) hx
theorem sib_form (ms x mb : Int) (hx : 0 ≤ x ∧ x ≤ 7) : bits BinOp.or IntKind.u8 (bits BinOp.or IntKind.u8 (scaleI ms * 64 % 256) (x * 8)) (loR mb) = sibI ms x mb := or_of3 _ _ _ (scaleI_in ms) hx (loR_in mb)
theorem sib_4 (ms mb : Int) : bits BinOp.or IntKind.u8 (bits BinOp.or IntKind.u8 (scaleI ms * 64 % 256) 32) (loR mb) = sibI ms 4 mb := sib_form ms 4 mb (by omega)
theorem below_dr {B : Nat} {a w : World} (h : Below B a w) : Below B a w.drew := h.drew
theorem still_tail {P : Program} {id : Nat} {Q : Exit → Act → World → Prop} {a : Act} {w : World} {l : List Oper} (n : Nat) (hm : P.follows .mixedOrders = true) (hB : Region.lexTailB .any l.toArray n = true)
    (h : wpStill P l.toArray w.drew (fun a' => wpList P l.toArray Q (l.drop n) a' w.drew) (l.take n) a) : (Code.region id l.toArray true).wp P Q a w := wp_region_still_tail n hm hB h
attribute [local irreducible] loR
end Go.Proofs.Ytakmpnmmcjnecaa
