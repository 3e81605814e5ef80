/- Plain: what the operations on words do, told by naturals: sums with what is carried, products, shifts, bits. -/
import Derived.Test.YtpemoeincepilaaDoorNtQ
import Derived.Test.YtpemoeincepilaaDoorSepX
import Derived.Laws.BitsAllLaws
set_option linter.unusedVariables false
set_option linter.unusedSimpArgs false
namespace Go.Proofs.YtpemoeincepilaaDoor.Nt
open Go Go.RowKit SL

theorem wuN (n : Int) : IntKind.u64.wrap n = n % 18446744073709551616 := by
  simp [IntKind.wrap, IntKind.bits, IntKind.signed]
theorem ar_addN (a b : Nat) : ar .add .u64 (a : Int) (b : Int) = (((a + b) % 18446744073709551616 : Nat) : Int) := by
  show IntKind.u64.wrap _ = _
  rw [wuN]; omega
theorem ar_mulN (a b : Nat) : ar .mul .u64 (a : Int) (b : Int) = (((a * b) % 18446744073709551616 : Nat) : Int) := by
  show IntKind.u64.wrap _ = _
  rw [wuN]; simp
theorem ar_subN {a b : Nat} (hb : b < 18446744073709551616) : ar .sub .u64 (a : Int) (b : Int) = (((a + 18446744073709551616 - b) % 18446744073709551616 : Nat) : Int) := by
  show IntKind.u64.wrap _ = _
  rw [wuN]; omega
theorem ar_shrN (a k : Nat) (hk : k ≤ 64) : ar .shr .u64 (a : Int) (k : Int) = ((a / 2 ^ k : Nat) : Int) := by
  show (a : Int).fdiv (2 ^ (min (k : Int).toNat 64)) = _
  rw [Int.toNat_natCast, Nat.min_eq_left hk]
  rw [show ((2 : Int) ^ k) = ((2 ^ k : Nat) : Int) by simp]
  exact Int.ofNat_fdiv a (2 ^ k) |>.symm
theorem ar_shlN (a k : Nat) (hk : k ≤ 64) : ar .shl .u64 (a : Int) (k : Int) = (((a * 2 ^ k) % 18446744073709551616 : Nat) : Int) := by
  show IntKind.u64.wrap (a * 2 ^ (min (k : Int).toNat 64)) = _
  rw [Int.toNat_natCast, Nat.min_eq_left hk, wuN]
  rw [show ((2 : Int) ^ k) = ((2 ^ k : Nat) : Int) by simp]
  simp
theorem ar_andN (a b : Nat) (ha : a < 18446744073709551616) (hb : b < 18446744073709551616) : ar .and .u64 (a : Int) (b : Int) = ((a &&& b : Nat) : Int) := u64_and_nat a b ha hb
theorem ar_orN (a b : Nat) (ha : a < 18446744073709551616) (hb : b < 18446744073709551616) : ar .or .u64 (a : Int) (b : Int) = ((a ||| b : Nat) : Int) := u64_or_nat a b ha hb
theorem cm_lsN (a b : Nat) : cm .lss (a : Int) (b : Int) = decide (a < b) := by unfold cm; simp
theorem cm_gtN (a b : Nat) : cm .gtr (a : Int) (b : Int) = decide (b < a) := by unfold cm; simp
theorem cm_eqN (a b : Nat) : cm .eql (a : Int) (b : Int) = decide (a = b) := by
  unfold cm
  by_cases h : a = b
  · subst h; simp
  · have : ((a : Int) == b) = false := by rw [beq_eq_false_iff_ne]; omega
    simp [h, this]
theorem cm_neN (a b : Nat) : cm .neq (a : Int) (b : Int) = decide (a ≠ b) := by
  unfold cm
  by_cases h : a = b
  · subst h; simp
  · have : ((a : Int) != b) = true := by rw [bne_iff_ne]; omega
    simp [h, this]
def addM (a b : Int) (c : Bool) : Int × Bool := if c then (ar .add .u64 (ar .add .u64 a b) 1, cm .lss (ar .add .u64 a b) a || cm .eql (ar .add .u64 (ar .add .u64 a b) 1) 0) else (ar .add .u64 a b, cm .lss (ar .add .u64 a b) a)
def subM (a b : Int) (c : Bool) : Int × Bool := if c then (ar .sub .u64 (ar .sub .u64 a b) 1, cm .lss a b || cm .eql (ar .sub .u64 a b) 0) else (ar .sub .u64 a b, cm .lss a b)
def mulM (a b : Int) : Int × Int :=
  let ah := ar .shr .u64 a 32
  let al := ar .and .u64 a 4294967295
  let bh := ar .shr .u64 b 32
  let bl := ar .and .u64 b 4294967295
  let m := ar .add .u64 (ar .mul .u64 ah bl) (ar .shr .u64 (ar .mul .u64 al bl) 32)
  let n := ar .add .u64 (ar .mul .u64 al bh) (ar .and .u64 m 4294967295)
  (ar .add .u64 (ar .add .u64 (ar .mul .u64 ah bh) (ar .shr .u64 m 32)) (ar .shr .u64 n 32), ar .mul .u64 a b)
/-- A sum with what is carried. -/
theorem addM_eq {a b : Nat} (ha : a < 18446744073709551616) (hb : b < 18446744073709551616) (c : Bool) : ∃ (s : Nat) (c' : Bool), addM a b c = ((s : Int), c') ∧ s < 18446744073709551616 ∧ s + 18446744073709551616 * c'.toNat = a + b + c.toNat := by
  unfold addM
  have e1 : (1 : Int) = ((1 : Nat) : Int) := rfl
  have e0 : (0 : Int) = ((0 : Nat) : Int) := rfl
  cases c with
  | false =>
    rw [if_neg (by simp), ar_addN, cm_lsN]
    by_cases h : a + b < 18446744073709551616
    · refine ⟨a + b, false, ?_, h, by simp⟩
      rw [Nat.mod_eq_of_lt h, decide_eq_false (by omega)]
    · have e : (a + b) % 18446744073709551616 = a + b - 18446744073709551616 := by omega
      refine ⟨a + b - 18446744073709551616, true, ?_, by omega, by simp only [Bool.toNat_true, Bool.toNat_false]; omega⟩
      rw [e, decide_eq_true (by omega)]
  | true =>
    rw [if_pos rfl, ar_addN, cm_lsN, e1, ar_addN, e0, cm_eqN]
    by_cases h : a + b + 1 < 18446744073709551616
    · refine ⟨a + b + 1, false, ?_, h, by simp⟩
      rw [Nat.mod_eq_of_lt (show a + b < 18446744073709551616 by omega), Nat.mod_eq_of_lt h, decide_eq_false (by omega), decide_eq_false (by omega)]; rfl
    · by_cases h2 : a + b + 1 = 18446744073709551616
      · refine ⟨0, true, ?_, by omega, by simp only [Bool.toNat_true, Bool.toNat_false]; omega⟩
        have e : (a + b + 1) % 18446744073709551616 = 0 := by omega
        rw [Nat.mod_eq_of_lt (show a + b < 18446744073709551616 by omega), e, decide_eq_false (by omega), decide_eq_true rfl]; rfl
      · refine ⟨a + b + 1 - 18446744073709551616, true, ?_, by omega, by simp only [Bool.toNat_true, Bool.toNat_false]; omega⟩
        have e : (a + b) % 18446744073709551616 = a + b - 18446744073709551616 := by omega
        have e3 : (a + b - 18446744073709551616 + 1) % 18446744073709551616 = a + b + 1 - 18446744073709551616 := by omega
        rw [e, e3, decide_eq_true (by omega)]; rfl
/-- A difference with what is borrowed. -/
theorem subM_eq {a b : Nat} (ha : a < 18446744073709551616) (hb : b < 18446744073709551616) (c : Bool) : ∃ (s : Nat) (c' : Bool), subM a b c = ((s : Int), c') ∧ s < 18446744073709551616 ∧ s + b + c.toNat = a + 18446744073709551616 * c'.toNat := by
  unfold subM
  have e1 : (1 : Int) = ((1 : Nat) : Int) := rfl
  have e0 : (0 : Int) = ((0 : Nat) : Int) := rfl
  cases c with
  | false =>
    rw [if_neg (by simp), ar_subN hb, cm_lsN]
    refine ⟨_, _, rfl, Nat.mod_lt _ (by omega), ?_⟩
    by_cases h : a < b
    · rw [Nat.mod_eq_of_lt (by omega), decide_eq_true h]; simp; omega
    · rw [show (a + 18446744073709551616 - b) % 18446744073709551616 = a - b by omega, decide_eq_false h]; simp; omega
  | true =>
    rw [if_pos rfl, ar_subN hb, cm_lsN, e1, ar_subN (by omega), e0, cm_eqN]
    refine ⟨_, _, rfl, Nat.mod_lt _ (by omega), ?_⟩
    by_cases h : a < b
    · rw [show (a + 18446744073709551616 - b) % 18446744073709551616 = a + 18446744073709551616 - b by omega, show (a + 18446744073709551616 - b + 18446744073709551616 - 1) % 18446744073709551616 = a + 18446744073709551616 - b - 1 by omega, decide_eq_true h]; simp; omega
    · by_cases h2 : a = b
      · subst h2
        rw [show (a + 18446744073709551616 - a) % 18446744073709551616 = 0 by omega]; simp; omega
      · rw [show (a + 18446744073709551616 - b) % 18446744073709551616 = a - b by omega, show (a - b + 18446744073709551616 - 1) % 18446744073709551616 = a - b - 1 by omega, decide_eq_false h, decide_eq_false (by omega)]; simp; omega
/-- A product's halves. -/
theorem mulM_eq {a b : Nat} (ha : a < 18446744073709551616) (hb : b < 18446744073709551616) : ∃ h l : Nat, mulM a b = ((h : Int), (l : Int)) ∧ h < 18446744073709551616 ∧ l < 18446744073709551616 ∧ l + 18446744073709551616 * h = a * b := by
  unfold mulM
  have e32 : (32 : Int) = ((32 : Nat) : Int) := rfl
  have eM : (4294967295 : Int) = ((4294967295 : Nat) : Int) := rfl
  have hand : ∀ x : Nat, x &&& 4294967295 = x % 4294967296 := fun x => Nat.and_two_pow_sub_one_eq_mod x 32
  simp only [e32, eM]
  rw [ar_shrN a 32 (by omega), ar_shrN b 32 (by omega), ar_andN a _ ha (by omega), ar_andN b _ hb (by omega), hand, hand]
  simp only [show (2 : Nat) ^ 32 = 4294967296 from rfl]
  obtain ⟨x, hx⟩ : ∃ x, x = a / 4294967296 := ⟨_, rfl⟩
  obtain ⟨y, hy⟩ : ∃ y, y = a % 4294967296 := ⟨_, rfl⟩
  obtain ⟨u, hu⟩ : ∃ u, u = b / 4294967296 := ⟨_, rfl⟩
  obtain ⟨v, hv⟩ : ∃ v, v = b % 4294967296 := ⟨_, rfl⟩
  rw [← hx, ← hy, ← hu, ← hv]
  have hax : a = 4294967296 * x + y := by omega
  have hbx : b = 4294967296 * u + v := by omega
  have bx : x < 4294967296 := by omega
  have bY : y < 4294967296 := by omega
  have bu : u < 4294967296 := by omega
  have bv : v < 4294967296 := by omega
  have p1 : x * v ≤ 4294967295 * 4294967295 := Nat.mul_le_mul (by omega) (by omega)
  have p2 : y * v ≤ 4294967295 * 4294967295 := Nat.mul_le_mul (by omega) (by omega)
  have p3 : y * u ≤ 4294967295 * 4294967295 := Nat.mul_le_mul (by omega) (by omega)
  have p4 : x * u ≤ 4294967295 * 4294967295 := Nat.mul_le_mul (by omega) (by omega)
  have hab : a * b = 18446744073709551616 * (x * u) + 4294967296 * (x * v) + 4294967296 * (y * u) + y * v := by
    rw [hax, hbx]; grind
  rw [ar_mulN, ar_mulN, ar_mulN, ar_mulN, ar_mulN, Nat.mod_eq_of_lt (show x * v < _ by omega), Nat.mod_eq_of_lt (show y * v < _ by omega), Nat.mod_eq_of_lt (show y * u < _ by omega), Nat.mod_eq_of_lt (show x * u < _ by omega)]
  rw [ar_shrN _ 32 (by omega), ar_addN]
  simp only [show (2 : Nat) ^ 32 = 4294967296 from rfl]
  generalize x * v = A at *
  generalize y * v = C at *
  generalize y * u = D at *
  generalize x * u = F at *
  rw [Nat.mod_eq_of_lt (show A + C / 4294967296 < 18446744073709551616 by omega)]
  obtain ⟨m, hm⟩ : ∃ m, m = A + C / 4294967296 := ⟨_, rfl⟩
  rw [← hm]
  rw [ar_shrN m 32 (by omega), ar_andN m _ (by omega) (by omega), hand, ar_addN, ar_addN]
  simp only [show (2 : Nat) ^ 32 = 4294967296 from rfl]
  rw [Nat.mod_eq_of_lt (show D + m % 4294967296 < 18446744073709551616 by omega), ar_shrN _ 32 (by omega), ar_addN]
  simp only [show (2 : Nat) ^ 32 = 4294967296 from rfl]
  refine ⟨_, _, rfl, Nat.mod_lt _ (by omega), Nat.mod_lt _ (by omega), ?_⟩
  rw [hab]
  omega
/-- Bits of a number that is moved down. -/
theorem bits_shr {a k : Nat} (h : a / 2 ^ k ≠ 0) : bitsN a = k + bitsN (a / 2 ^ k) := by
  obtain ⟨b1, b2⟩ := bitsN_le h
  have b3 := bitsN_lt (a / 2 ^ k)
  have c1 : 2 ^ (bitsN (a / 2 ^ k) - 1) * 2 ^ k ≤ a := Nat.le_trans (Nat.mul_le_mul_right _ b1) (Nat.div_mul_le_self a _)
  have c2 : a < 2 ^ bitsN (a / 2 ^ k) * 2 ^ k := (Nat.div_lt_iff_lt_mul (Nat.two_pow_pos k)).1 b3
  rw [← Nat.pow_add] at c1 c2
  rw [show k + bitsN (a / 2 ^ k) = (bitsN (a / 2 ^ k) - 1 + k) + 1 by omega]
  exact bitsN_eq c1 (by rw [show bitsN (a / 2 ^ k) - 1 + k + 1 = bitsN (a / 2 ^ k) + k by omega]; exact c2)
theorem bitsN_small {a : Nat} (h : a < 2) : bitsN a = a := by
  rcases (by omega : a = 0 ∨ a = 1) with rfl | rfl <;> rfl
end Go.Proofs.YtpemoeincepilaaDoor.Nt
