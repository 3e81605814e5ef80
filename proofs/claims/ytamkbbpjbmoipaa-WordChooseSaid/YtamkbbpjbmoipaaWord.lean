/- Plain laws on words of 64 bits (chapter 1): sums with carry, products, quotients, inverses, chosen bits. No program in sight. -/
import Derived.WalkKit
namespace Go.Proofs.Ytamkbbpjbmoipaa.Wd
open Go

def InU (a : Int) : Prop := 0 ≤ a ∧ a < 18446744073709551616
theorem wu (n : Int) : IntKind.u64.wrap n = n % 18446744073709551616 := by simp [IntKind.wrap, IntKind.bits, IntKind.signed]
theorem inU_mod (n : Int) : InU (n % 18446744073709551616) := by unfold InU; omega

def addS (a b : Int) (c : Bool) : Int := (a + b + (if c then 1 else 0)) % 18446744073709551616
def addC (a b : Int) (c : Bool) : Bool := decide (18446744073709551616 ≤ a + b + (if c then 1 else 0))
def subS (a b : Int) (c : Bool) : Int := (a - b - (if c then 1 else 0)) % 18446744073709551616
def subC (a b : Int) (c : Bool) : Bool := decide (a - b - (if c then 1 else 0) < 0)
theorem inU_addS (a b : Int) (c : Bool) : InU (addS a b c) := inU_mod _
theorem inU_subS (a b : Int) (c : Bool) : InU (subS a b c) := inU_mod _

theorem add_f (a b : Int) (ha : InU a) (hb : InU b) : IntKind.u64.wrap (a + b) = addS a b false ∧ decide (IntKind.u64.wrap (a + b) < a) = addC a b false := by
  unfold InU at *; rw [wu]; unfold addS addC; simp; omega
theorem add_t (a b : Int) (ha : InU a) (hb : InU b) : IntKind.u64.wrap (IntKind.u64.wrap (a + b) + 1) = addS a b true ∧
    (decide (IntKind.u64.wrap (a + b) < a) || IntKind.u64.wrap (IntKind.u64.wrap (a + b) + 1) == 0) = addC a b true := by
  unfold InU at *; rw [wu, wu]; unfold addS addC; simp only [if_true]; refine ⟨by omega, ?_⟩
  rw [Bool.eq_iff_iff]; simp; omega
theorem sub_f (a b : Int) (_ha : InU a) (_hb : InU b) : IntKind.u64.wrap (a - b) = subS a b false ∧ decide (a < b) = subC a b false := by
  unfold InU at *; rw [wu]; unfold subS subC; simp; omega
theorem sub_t (a b : Int) (ha : InU a) (hb : InU b) : IntKind.u64.wrap (IntKind.u64.wrap (a - b) - 1) = subS a b true ∧
    (decide (a < b) || IntKind.u64.wrap (a - b) == 0) = subC a b true := by
  unfold InU at *; rw [wu, wu]; unfold subS subC; simp only [if_true]; refine ⟨by omega, ?_⟩
  rw [Bool.eq_iff_iff]; simp; omega

/-! Mul -/
def hi (a b : Int) : Int := a * b / 18446744073709551616
def lo (a b : Int) : Int := a * b % 18446744073709551616
theorem inU_lo (a b : Int) : InU (lo a b) := inU_mod _
theorem half_mul (a b : Int) (ha : 0 ≤ a ∧ a ≤ 4294967295) (hb : 0 ≤ b ∧ b ≤ 4294967295) : 0 ≤ a * b ∧ a * b ≤ 18446744065119617025 := by
  refine ⟨Int.mul_nonneg ha.1 hb.1, ?_⟩
  have := Int.mul_le_mul ha.2 hb.2 hb.1 (by omega)
  omega
theorem word_mul (a b : Int) (ha : InU a) (hb : InU b) : 0 ≤ a * b ∧ a * b ≤ 340282366920938463426481119284349108225 := by
  unfold InU at *
  refine ⟨Int.mul_nonneg ha.1 hb.1, ?_⟩
  have := Int.mul_le_mul (show a ≤ 18446744073709551615 by omega) (show b ≤ 18446744073709551615 by omega) hb.1 (by omega)
  omega
theorem inU_hi (a b : Int) (ha : InU a) (hb : InU b) : InU (hi a b) := by
  have := word_mul a b ha hb
  unfold InU hi; omega
theorem mul_hi (a b : Int) (ha : InU a) (hb : InU b) :
    IntKind.u64.wrap (IntKind.u64.wrap (IntKind.u64.wrap (a / 4294967296 * (b / 4294967296)) +
      IntKind.u64.wrap (IntKind.u64.wrap (a / 4294967296 * (b % 4294967296)) + IntKind.u64.wrap ((a % 4294967296) * (b % 4294967296)) / 4294967296) / 4294967296) +
      IntKind.u64.wrap (IntKind.u64.wrap ((a % 4294967296) * (b / 4294967296)) +
        (IntKind.u64.wrap (IntKind.u64.wrap (a / 4294967296 * (b % 4294967296)) + IntKind.u64.wrap ((a % 4294967296) * (b % 4294967296)) / 4294967296)) % 4294967296) / 4294967296) = hi a b := by
  unfold InU at *
  have h1 := half_mul (a % 4294967296) (b % 4294967296) (by omega) (by omega)
  have h2 := half_mul (a / 4294967296) (b % 4294967296) (by omega) (by omega)
  have h3 := half_mul (a % 4294967296) (b / 4294967296) (by omega) (by omega)
  have h4 := half_mul (a / 4294967296) (b / 4294967296) (by omega) (by omega)
  have ea : a = a / 4294967296 * 4294967296 + a % 4294967296 := by omega
  have eb : b = b / 4294967296 * 4294967296 + b % 4294967296 := by omega
  have e : a * b = a / 4294967296 * (b / 4294967296) * 18446744073709551616 + (a / 4294967296 * (b % 4294967296) + a % 4294967296 * (b / 4294967296)) * 4294967296 + a % 4294967296 * (b % 4294967296) := by
    generalize a / 4294967296 = ah at *
    generalize b / 4294967296 = bh at *
    generalize a % 4294967296 = al at *
    generalize b % 4294967296 = bl at *
    rw [ea, eb]; grind
  unfold hi
  rw [e]
  simp only [wu]
  clear e
  generalize a % 4294967296 * (b % 4294967296) = p at *
  generalize a / 4294967296 * (b % 4294967296) = q at *
  generalize a % 4294967296 * (b / 4294967296) = r at *
  generalize a / 4294967296 * (b / 4294967296) = s at *
  omega
theorem and_half (a : Int) (h : InU a) : bits BinOp.and IntKind.u64 a 4294967295 = a % 4294967296 := by
  unfold InU at h
  rw [show (4294967295 : Int) = ((4294967295 : Nat) : Int) from rfl, show a = ((a.toNat : Nat) : Int) by omega, u64_and_nat _ _ (by omega) (by omega)]
  rw [show (4294967295 : Nat) = 2 ^ 32 - 1 from rfl, Nat.and_two_pow_sub_one_eq_mod]; omega
theorem and_one (a : Int) (h : InU a) : bits BinOp.and IntKind.u64 a 1 = a % 2 := by
  unfold InU at h
  rw [show (1 : Int) = ((1 : Nat) : Int) from rfl, show a = ((a.toNat : Nat) : Int) by omega, u64_and_nat _ _ (by omega) (by omega)]
  rw [show (1 : Nat) = 2 ^ 1 - 1 from rfl, Nat.and_two_pow_sub_one_eq_mod]; omega

/-! Div -/
def DivInv (N by_ : Int) (k : Nat) (r l q : Int) : Prop :=
  ∃ t : Int, t * 18446744073709551616 + l = 2 ^ k * N ∧ 0 ≤ l ∧ l < 18446744073709551616 ∧ 0 ≤ r ∧ r < by_ ∧ r + by_ * q = t ∧ 0 ≤ q ∧ q < 2 ^ k
theorem or_even (x y : Int) (hx : 0 ≤ x) (hx' : x < 18446744073709551616) (h2 : x % 2 = 0) (hy : 0 ≤ y) (hy' : y ≤ 1) : bits BinOp.or IntKind.u64 x y = x + y := by
  rw [show x = ((x.toNat : Nat) : Int) by omega, show y = ((y.toNat : Nat) : Int) by omega, u64_or_nat _ _ (by omega) (by omega)]
  have h : x.toNat = (x.toNat / 2) <<< 1 := by rw [Nat.shiftLeft_eq]; omega
  have := Nat.shiftLeft_add_eq_or_of_lt (a := x.toNat / 2) (b := y.toNat) (i := 1) (by omega)
  rw [← h] at this
  rw [← this]; rfl
theorem div_start (high low by_ : Int) (hh : InU high) (hl : InU low) (h : high < by_) : DivInv (high * 18446744073709551616 + low) by_ 0 high low 0 := by
  unfold InU at *
  exact ⟨high, by rw [Int.pow_zero]; omega, by omega, by omega, by omega, h, by rw [Int.mul_zero]; omega, by omega, by rw [Int.pow_zero]; omega⟩
theorem div_step (N by_ : Int) (k : Nat) (r l q : Int) (hk : k < 64) (hb : InU by_) (h : DivInv N by_ k r l q) :
    let r1 := bits BinOp.or IntKind.u64 (IntKind.u64.wrap (r * 2)) (l / 9223372036854775808)
    if 9223372036854775808 ≤ r ∨ by_ ≤ r1
    then DivInv N by_ (k + 1) (IntKind.u64.wrap (r1 - by_)) (IntKind.u64.wrap (l * 2)) (bits BinOp.or IntKind.u64 (IntKind.u64.wrap (q * 2)) 1)
    else DivInv N by_ (k + 1) r1 (IntKind.u64.wrap (l * 2)) (IntKind.u64.wrap (q * 2)) := by
  obtain ⟨t, h1, h2, h3, h4, h5, h6, h7, h8⟩ := h
  unfold InU at hb
  have hP : (2 : Int) ^ (k + 1) = 2 * 2 ^ k := by rw [Int.pow_succ]; omega
  have hP2 : (2 : Int) ^ k ≤ 9223372036854775808 := by
    have h := Nat.pow_le_pow_right (show 0 < 2 by omega) (show k ≤ 63 by omega)
    have e : ((2 ^ k : Nat) : Int) = (2 : Int) ^ k := by simp
    rw [← e]; rw [show (2 : Nat) ^ 63 = 9223372036854775808 from rfl] at h; generalize 2 ^ k = z at *; omega
  have hN : (2 : Int) ^ (k + 1) * N = 2 * (2 ^ k * N) := by rw [hP, Int.mul_assoc]
  simp only [wu]
  rw [or_even (r * 2 % 18446744073709551616) (l / 9223372036854775808) (by omega) (by omega) (by omega) (by omega) (by omega), or_even (q * 2 % 18446744073709551616) 1 (by omega) (by omega) (by omega) (by omega) (by omega)]
  have e2 : ∀ x : Int, by_ * (2 * x + 1) = 2 * (by_ * x) + by_ := fun x => by grind
  have e1 : ∀ x : Int, by_ * (2 * x) = 2 * (by_ * x) := fun x => by grind
  rw [show q * 2 % 18446744073709551616 = 2 * q by omega]
  split
  · refine ⟨2 * t + l / 9223372036854775808, ?_, ?_, ?_, ?_, ?_, ?_, ?_, ?_⟩
    · rw [hN]; omega
    · omega
    · omega
    · omega
    · omega
    · rw [e2]; generalize by_ * q = z at *; omega
    · omega
    · rw [hP]; omega
  · refine ⟨2 * t + l / 9223372036854775808, ?_, ?_, ?_, ?_, ?_, ?_, ?_, ?_⟩
    · rw [hN]; omega
    · omega
    · omega
    · omega
    · omega
    · rw [e1]; generalize by_ * q = z at *; omega
    · omega
    · rw [hP]; omega
theorem euclid (N by_ r q : Int) (_h4 : 0 ≤ r) (h5 : r < by_) (h6 : r + by_ * q = N) : q = N / by_ ∧ r = N % by_ := by
  have hne : by_ ≠ 0 := by omega
  subst h6
  rw [Int.add_mul_ediv_left _ _ hne, Int.add_mul_emod_self_left, Int.ediv_eq_zero_of_lt (by omega) h5, Int.emod_eq_of_lt (by omega) h5]; simp
theorem div_end (N by_ : Int) (r l q : Int) (h : DivInv N by_ 64 r l q) : q = N / by_ ∧ r = N % by_ := by
  obtain ⟨t, h1, h2, h3, h4, h5, h6, h7, h8⟩ := h
  exact euclid N by_ r q h4 h5 (by omega)
def quo (h l b : Int) : Int := if h < b then (h * 18446744073709551616 + l) / b else 0
def rem (h l b : Int) : Int := if h < b then (h * 18446744073709551616 + l) % b else 0

/-! Inverse -/
def newt (n : Int) : Nat → Int
  | 0 => n
  | k + 1 => IntKind.u64.wrap (newt n k * IntKind.u64.wrap (2 - IntKind.u64.wrap (n * newt n k)))
theorem newt_step (n x m m' : Int) (h : m ∣ 1 - n * x) (h2 : m' ∣ m * m) (h3 : m' ∣ 18446744073709551616) :
    m' ∣ 1 - n * (IntKind.u64.wrap (x * IntKind.u64.wrap (2 - IntKind.u64.wrap (n * x)))) := by
  simp only [wu]
  rw [Int.emod_def (n * x), Int.emod_def (2 - _), Int.emod_def (x * _)]
  obtain ⟨t, ht⟩ := h
  obtain ⟨u, hu⟩ := h2
  obtain ⟨v, hv⟩ := h3
  generalize n * x / 18446744073709551616 = q1
  generalize (2 - (n * x - 18446744073709551616 * q1)) / 18446744073709551616 = q2
  generalize x * (2 - (n * x - 18446744073709551616 * q1) - 18446744073709551616 * q2) / 18446744073709551616 = q3
  refine ⟨u * t * t - v * (n * x * (q1 - q2) - n * q3), ?_⟩
  have e1 : 1 - n * (x * (2 - (n * x - 18446744073709551616 * q1) - 18446744073709551616 * q2) - 18446744073709551616 * q3) = (1 - n * x) * (1 - n * x) - 18446744073709551616 * (n * x * (q1 - q2) - n * q3) := by grind
  rw [e1, ht]
  generalize n * x * (q1 - q2) - n * q3 = z
  rw [show m * t * (m * t) = (m * m) * (t * t) by grind, hu, hv]; grind
theorem newt_in (n : Int) (h : InU n) : ∀ k, InU (newt n k)
  | 0 => h
  | k + 1 => by rw [newt, wu]; exact inU_mod _
theorem newt_ok (n : Int) (ho : n % 2 = 1) : n * newt n 5 % 18446744073709551616 = 1 := by
  have h0 : (8 : Int) ∣ 1 - n * newt n 0 := by
    rw [newt]
    have : n = 8 * (n / 8) + n % 8 := by omega
    generalize n / 8 = q at *
    generalize hr : n % 8 = r at *
    subst this
    have hr' : r = 1 ∨ r = 3 ∨ r = 5 ∨ r = 7 := by omega
    have e : 1 - (8 * q + r) * (8 * q + r) = 8 * (-(8 * q * q + 2 * q * r)) + (1 - r * r) := by grind
    rw [e]
    refine Int.dvd_add (Int.dvd_mul_right _ _) ?_
    rcases hr' with h | h | h | h <;> subst h <;> decide
  have h1 := newt_step n _ 8 64 h0 (by decide) (by decide)
  have h2 := newt_step n _ 64 4096 h1 (by decide) (by decide)
  have h3 := newt_step n _ 4096 16777216 h2 (by decide) (by decide)
  have h4 := newt_step n _ 16777216 281474976710656 h3 (by decide) (by decide)
  have h5 := newt_step n _ 281474976710656 18446744073709551616 h4 (by decide) (by decide)
  have h6 : (18446744073709551616 : Int) ∣ 1 - n * newt n 5 := h5
  omega
theorem inv_unique (n x y : Int) (hx : InU x) (hy : InU y) (h1 : n * x % 18446744073709551616 = 1) (h2 : n * y % 18446744073709551616 = 1) : x = y := by
  have d1 : n * x = 18446744073709551616 * (n * x / 18446744073709551616) + 1 := by omega
  have d2 : n * y = 18446744073709551616 * (n * y / 18446744073709551616) + 1 := by omega
  generalize n * x / 18446744073709551616 = p at d1
  generalize n * y / 18446744073709551616 = q at d2
  have e : x - y = 18446744073709551616 * (y * p - x * q) := by
    have a1 : x * (n * y) = x * (18446744073709551616 * q + 1) := by rw [d2]
    have a2 : y * (n * x) = y * (18446744073709551616 * p + 1) := by rw [d1]
    grind
  unfold InU at *
  generalize y * p - x * q = z at e
  omega
def inv (n : Int) : Int := if n % 2 = 1 then newt n 5 else 0
def odd (n : Int) : Bool := decide (n % 2 = 1)
theorem inU_inv (n : Int) (h : InU n) : InU (inv n) := by
  unfold inv; split
  · exact newt_in n h 5
  · unfold InU; omega
theorem inv_ok (n : Int) (h : n % 2 = 1) : n * inv n % 18446744073709551616 = 1 := by rw [inv, if_pos h]; exact newt_ok n h
theorem inv_is (n x : Int) (hn : InU n) (hx : InU x) (h : n * x % 18446744073709551616 = 1) : x = inv n := by
  have ho : n % 2 = 1 := by
    by_cases e : n % 2 = 1
    · exact e
    · have : n = 2 * (n / 2) := by omega
      rw [this, Int.mul_assoc] at h
      generalize n / 2 * x = z at h
      omega
  exact inv_unique n x _ hx (inU_inv n hn) h (inv_ok n ho)

/-! Bits -/
def blen (a : Int) : Int := if a ≤ 0 then 0 else Nat.log2 a.toNat + 1
theorem blen_spec (a : Int) (h : 0 < a) : 0 < blen a ∧ (2 : Int) ^ (blen a - 1).toNat ≤ a ∧ a < 2 ^ (blen a).toNat := by
  unfold blen; rw [if_neg (by omega)]
  have h1 := Nat.log2_self_le (n := a.toNat) (by omega)
  have h2 := Nat.lt_log2_self (n := a.toNat)
  rw [show ((Nat.log2 a.toNat : Int) + 1 - 1).toNat = Nat.log2 a.toNat by omega, show ((Nat.log2 a.toNat : Int) + 1).toNat = Nat.log2 a.toNat + 1 by omega]
  refine ⟨by omega, ?_, ?_⟩
  · have : ((2 ^ Nat.log2 a.toNat : Nat) : Int) ≤ ((a.toNat : Nat) : Int) := by exact_mod_cast h1
    rw [Int.natCast_pow] at this; simp at this; omega
  · have : ((a.toNat : Nat) : Int) < ((2 ^ (Nat.log2 a.toNat + 1) : Nat) : Int) := by exact_mod_cast h2
    rw [Int.natCast_pow] at this; simp at this; omega
theorem blen_half (a : Int) (s : Nat) (h : 0 < a / 2 ^ s) : blen a = s + blen (a / 2 ^ s) := by
  have hp : (0 : Int) < 2 ^ s := Int.pow_pos (by omega)
  have ha : 0 < a := by
    by_cases e : 0 < a
    · exact e
    · have := Int.ediv_le_ediv hp (show a ≤ 0 by omega); simp at this; omega
  unfold blen
  rw [if_neg (by omega), if_neg (by omega)]
  have e : (a / 2 ^ s).toNat = a.toNat / 2 ^ s := by
    have e1 : a = ((a.toNat : Nat) : Int) := by omega
    have e2 : (2 : Int) ^ s = ((2 ^ s : Nat) : Int) := by simp
    generalize a.toNat = n at e1
    subst e1
    rw [e2, ← Int.natCast_ediv]; rfl
  have h3 : 0 < a.toNat / 2 ^ s := by omega
  rw [e]
  generalize a.toNat = n at *
  have g1 := Nat.log2_self_le (n := n / 2 ^ s) (by omega)
  have g2 := Nat.lt_log2_self (n := n / 2 ^ s)
  generalize Nat.log2 (n / 2 ^ s) = L at *
  have g3 : n.log2 = s + L := by
    rw [Nat.log2_eq_iff (by intro h0; subst h0; simp at h3)]
    rw [Nat.le_div_iff_mul_le (Nat.two_pow_pos s)] at g1
    rw [Nat.div_lt_iff_lt_mul (Nat.two_pow_pos s)] at g2
    refine ⟨by rw [Nat.pow_add, Nat.mul_comm]; exact g1, ?_⟩
    rw [show s + L + 1 = (L + 1) + s by omega, Nat.pow_add]; exact g2
  omega

/-! Mask, Choose -/
def maskOf (c : Bool) : Int := if c then 18446744073709551615 else 0
def chooseI (m a b : Int) : Int := bits BinOp.xor IntKind.u64 b (bits BinOp.and IntKind.u64 m (bits BinOp.xor IntKind.u64 a b))
end Go.Proofs.Ytamkbbpjbmoipaa.Wd
