/- Plain laws on the references' quotient, inverse, chosen bits and number of bits (chapter 1). No program in sight. -/
import Derived.Test.YtamkbbpjbmoipaaWordB
namespace Go.Proofs.Ytamkbbpjbmoipaa.Wd
open Go

theorem choose_ref (m a b : Int) (hm : InU m) (ha : InU a) (hb : InU b) :
    bits BinOp.or IntKind.u64 (bits BinOp.and IntKind.u64 a m) (bits BinOp.andNot IntKind.u64 b m) = chooseI m a b := by
  obtain ⟨m, rfl, km⟩ := of_inU hm
  obtain ⟨a, rfl, ka⟩ := of_inU ha
  obtain ⟨b, rfl, kb⟩ := of_inU hb
  rw [choose_nat m a b km ka kb, u64_and_nat a m ka km, u64_andNot_nat b m kb km, u64_or_nat _ _ (and_lt ka) (and_lt kb)]
  congr 1
  unfold chooseN
  apply Nat.eq_of_testBit_eq
  intro i
  rw [show 18446744073709551615 - m = 2 ^ 64 - (m + 1) by omega]
  simp only [Nat.testBit_xor, Nat.testBit_and, Nat.testBit_or, Nat.testBit_two_pow_sub_succ (show m < 2 ^ 64 by omega)]
  by_cases h : i < 64
  · simp only [h, decide_true, Bool.true_and]; cases m.testBit i <;> cases a.testBit i <;> cases b.testBit i <;> rfl
  · have e1 : a.testBit i = false := Nat.testBit_lt_two_pow (Nat.lt_of_lt_of_le ka (Nat.pow_le_pow_right (n := 2) (by omega) (show 64 ≤ i by omega)))
    have e2 : b.testBit i = false := Nat.testBit_lt_two_pow (Nat.lt_of_lt_of_le kb (Nat.pow_le_pow_right (n := 2) (by omega) (show 64 ≤ i by omega)))
    simp [e1, e2]
theorem two_pow_cast (m : Nat) : ((2 ^ m : Nat) : Int) = (2 : Int) ^ m := by simp
theorem pow_pos (m : Nat) : (0 : Int) < 2 ^ m := Int.pow_pos (by omega)
theorem pow_lt64 (m : Nat) (h : m < 64) : (2 : Int) ^ m ≤ 9223372036854775808 := by
  have h := Nat.pow_le_pow_right (show 0 < 2 by omega) (show m ≤ 63 by omega)
  rw [← two_pow_cast]; rw [show (2 : Nat) ^ 63 = 9223372036854775808 from rfl] at h; generalize 2 ^ m = z at *; omega
theorem pow_succ2 (m : Nat) : (2 : Int) ^ (m + 1) = 2 * 2 ^ m := by rw [Int.pow_succ]; omega
theorem pow_split (m : Nat) (h : m < 64) : (18446744073709551616 : Int) = 2 ^ m * (2 * 2 ^ (63 - m)) := by
  rw [← pow_succ2, ← Int.pow_add, show m + (63 - m + 1) = 64 by omega]; rfl
theorem wrap_pow (m : Nat) (h : m < 64) : IntKind.u64.wrap (2 ^ m) = 2 ^ m := by rw [wu]; have := pow_lt64 m h; have := pow_pos m; omega
theorem or_pow (x : Int) (m : Nat) (hm : m < 64) (hx : 0 ≤ x) (hx2 : x < 18446744073709551616) (hd : ∃ y, x = y * 2 ^ (m + 1)) : bits BinOp.or IntKind.u64 x (2 ^ m) = x + 2 ^ m := by
  obtain ⟨y, hy⟩ := hd
  have hp := pow_pos (m + 1)
  have hl := pow_lt64 m hm
  have hy0 : 0 ≤ y := by
    by_cases h : 0 ≤ y
    · exact h
    · have := Int.mul_lt_mul_of_pos_right (show y < 0 by omega) hp; omega
  have e : x = ((x.toNat : Nat) : Int) := by omega
  have e2 : x.toNat = y.toNat <<< (m + 1) := by
    rw [Nat.shiftLeft_eq]
    have : ((x.toNat : Nat) : Int) = ((y.toNat * 2 ^ (m + 1) : Nat) : Int) := by
      rw [← e, Int.natCast_mul, two_pow_cast, hy]; rw [show ((y.toNat : Nat) : Int) = y by omega]
    exact Int.ofNat.inj this
  have h := Nat.shiftLeft_add_eq_or_of_lt (a := y.toNat) (b := 2 ^ m) (i := m + 1) (Nat.pow_lt_pow_right (by omega) (by omega))
  rw [← e2] at h
  have hk : 2 ^ m < 18446744073709551616 := by rw [← two_pow_cast] at hl; generalize 2 ^ m = z at *; omega
  rw [e, ← two_pow_cast, u64_or_nat _ _ (by omega) hk, ← h]; simp
theorem or_low (x : Int) (m : Nat) (hm : m < 64) (hx : 0 ≤ x) (hx2 : x < 2 ^ m) : bits BinOp.or IntKind.u64 x (2 ^ m) = x + 2 ^ m := by
  have hl := pow_lt64 m hm
  have e : x = ((x.toNat : Nat) : Int) := by omega
  have hx3 : x.toNat < 2 ^ m := by rw [← two_pow_cast] at hx2; omega
  have h := Nat.shiftLeft_add_eq_or_of_lt (a := 1) (b := x.toNat) (i := m) hx3
  rw [Nat.shiftLeft_eq, Nat.one_mul] at h
  have hk : 2 ^ m < 18446744073709551616 := by rw [← two_pow_cast] at hl; generalize 2 ^ m = z at *; omega
  rw [e, ← two_pow_cast, u64_or_nat _ _ (by omega) hk, Nat.or_comm, ← h, Int.natCast_add]; omega

def RDiv (N by_ : Int) (j : Nat) (r q : Int) : Prop :=
  ∃ y : Int, q = y * 2 ^ j ∧ 0 ≤ q ∧ q + 2 ^ j ≤ 18446744073709551616 ∧ 0 ≤ r ∧ r < by_ ∧ r + by_ * y = N / 2 ^ j
theorem rdiv_start (h l b : Int) (hh : InU h) (hl : InU l) (hlt : h < b) : RDiv (h * 18446744073709551616 + l) b 64 h 0 := by
  refine ⟨0, by simp, by omega, by decide, hh.1, hlt, ?_⟩
  unfold InU at *
  rw [show (2 : Int) ^ 64 = 18446744073709551616 from rfl]; omega
theorem rdiv_end (N b r q : Int) (h : RDiv N b 0 r q) : q = N / b ∧ r = N % b := by
  obtain ⟨y, h1, h2, h3, h4, h5, h6⟩ := h
  rw [Int.pow_zero, Int.mul_one] at h1
  rw [Int.pow_zero, Int.ediv_one] at h6
  subst h1
  exact euclid N b r q h4 h5 h6
theorem low_bit (h l : Int) (m : Nat) (hm : m < 64) : (h * 18446744073709551616 + l) / 2 ^ m % 2 = l / 2 ^ m % 2 := by
  have hp := pow_pos m
  rw [pow_split m hm]
  rw [show h * (2 ^ m * (2 * 2 ^ (63 - m))) + l = l + 2 ^ m * (h * (2 * 2 ^ (63 - m))) by grind]
  rw [Int.add_mul_ediv_left _ _ (by omega)]
  generalize (2 : Int) ^ (63 - m) = R
  rw [show h * (2 * R) = 2 * (h * R) by grind]
  generalize h * R = z
  generalize l / 2 ^ m = x
  omega
theorem half_of (N : Int) (m : Nat) : N / 2 ^ m = 2 * (N / 2 ^ (m + 1)) + N / 2 ^ m % 2 := by
  have : N / 2 ^ (m + 1) = N / 2 ^ m / 2 := by rw [Int.pow_succ, ← Int.ediv_ediv_of_nonneg (by have := pow_pos m; omega)]
  rw [this]; omega
theorem rdiv_step (h l b : Int) (m : Nat) (r q : Int) (hm : m < 64) (hl : InU l) (hb : InU b) (hi : RDiv (h * 18446744073709551616 + l) b (m + 1) r q) :
    let r1 := bits BinOp.or IntKind.u64 (IntKind.u64.wrap (r * 2)) (bits BinOp.and IntKind.u64 (l / 2 ^ m) 1)
    if 9223372036854775808 ≤ r ∨ b ≤ r1 then RDiv (h * 18446744073709551616 + l) b m (IntKind.u64.wrap (r1 - b)) (bits BinOp.or IntKind.u64 q (2 ^ m)) else RDiv (h * 18446744073709551616 + l) b m r1 q := by
  obtain ⟨y, h1, h2, h3, h4, h5, h6⟩ := hi
  have hp := pow_pos m
  have hl2 := pow_lt64 m hm
  have hq2 : q < 18446744073709551616 := by have := pow_pos (m + 1); omega
  rw [or_pow q m hm h2 hq2 ⟨y, h1⟩]
  have e1 : bits BinOp.and IntKind.u64 (l / 2 ^ m) 1 = l / 2 ^ m % 2 := by
    apply and_one
    have a1 : 0 ≤ l / 2 ^ m := Int.ediv_nonneg hl.1 (by omega)
    have a2 : l / 2 ^ m ≤ l := Int.ediv_le_self _ hl.1
    have := hl.2
    unfold InU; omega
  have e2 := half_of (h * 18446744073709551616 + l) m
  rw [low_bit h l m hm, ← h6] at e2
  rw [e1]
  have hbit : 0 ≤ l / 2 ^ m % 2 ∧ l / 2 ^ m % 2 ≤ 1 := by omega
  generalize l / 2 ^ m % 2 = t at *
  simp only [wu]
  unfold InU at hb
  rw [or_even (r * 2 % 18446744073709551616) t (by omega) (by omega) (by omega) (by omega) (by omega)]
  rw [pow_succ2] at h1 h3
  have f1 : b * (2 * y + 1) = 2 * (b * y) + b := by grind
  have f2 : b * (2 * y) = 2 * (b * y) := by grind
  split
  · refine ⟨2 * y + 1, by rw [h1]; grind, by omega, by omega, by omega, by omega, ?_⟩
    rw [f1, e2]; generalize b * y = z at *; omega
  · refine ⟨2 * y, by rw [h1]; grind, by omega, by omega, by omega, by omega, ?_⟩
    rw [f2, e2]; generalize b * y = z at *; omega

def RInv (n : Int) (k : Nat) (x : Int) : Prop := 0 ≤ x ∧ x < 2 ^ k ∧ ∃ s, n * x - 1 = 2 ^ k * s
theorem rinv_start (n : Int) : RInv n 0 0 := ⟨by omega, by simp, -1, by simp⟩
theorem rinv_end (n x : Int) (hn : InU n) (h : RInv n 64 x) : x = inv n := by
  obtain ⟨h1, h2, s, h3⟩ := h
  rw [show (2 : Int) ^ 64 = 18446744073709551616 from rfl] at *
  exact inv_is n x hn ⟨h1, h2⟩ (by omega)
theorem xor_one_odd (y : Int) (h : InU y) (ho : y % 2 = 1) : bits BinOp.xor IntKind.u64 y 1 = y - 1 := by
  obtain ⟨y, rfl, hy⟩ := of_inU h
  rw [show (1 : Int) = ((1 : Nat) : Int) from rfl, u64_xor_nat y 1 hy (by omega)]
  have : y ^^^ 1 = y - 1 := by
    have e : y = (y / 2) <<< 1 + 1 := by rw [Nat.shiftLeft_eq]; omega
    have e2 := Nat.shiftLeft_add_eq_or_of_lt (a := y / 2) (b := 1) (i := 1) (by omega)
    apply Nat.eq_of_testBit_eq
    intro i
    have e3 : y - 1 = (y / 2) <<< 1 := by rw [Nat.shiftLeft_eq]; omega
    rw [e3, Nat.testBit_xor]
    conv => lhs; rw [e, e2]
    rw [Nat.testBit_or]
    cases i with
    | zero => simp
    | succ i =>
      have e4 : Nat.testBit 1 (i + 1) = false := by rw [Nat.testBit_succ]; simp
      rw [e4]; simp
  rw [this]; omega
theorem rinv_step (n x : Int) (k : Nat) (hk : k < 64) (ho : n % 2 = 1) (h : RInv n k x) :
    ((bits BinOp.and IntKind.u64 (bits BinOp.xor IntKind.u64 (IntKind.u64.wrap (n * x)) 1 / 2 ^ k) 1 == 1) = true ∧ RInv n (k + 1) (bits BinOp.or IntKind.u64 x (2 ^ k))) ∨
    ((bits BinOp.and IntKind.u64 (bits BinOp.xor IntKind.u64 (IntKind.u64.wrap (n * x)) 1 / 2 ^ k) 1 == 1) = false ∧ RInv n (k + 1) x) := by
  obtain ⟨h1, h2, s, h3⟩ := h
  have hp := pow_pos k
  rw [or_low x k hk h1 h2, wu]
  cases k with
  | zero =>
    rw [Int.pow_zero] at h2 h3
    have : x = 0 := by omega
    subst this
    refine .inl ⟨by rw [Int.mul_zero]; decide +kernel, by omega, by rw [Int.pow_zero]; decide, ?_⟩
    exact ⟨n / 2, by rw [Int.pow_zero]; omega⟩
  | succ k =>
    have hM := pow_split (k + 1) hk
    have hc : n * x % 18446744073709551616 = n * x - 18446744073709551616 * (n * x / 18446744073709551616) := Int.emod_def _ _
    generalize n * x / 18446744073709551616 = c at hc
    have hodd : n * x % 18446744073709551616 % 2 = 1 := by
      rw [pow_succ2] at h3
      have : n * x = 2 * (2 ^ k * s) + 1 := by grind
      generalize 2 ^ k * s = z at this
      omega
    rw [xor_one_odd _ (inU_mod _) hodd, hc]
    have e : n * x - 18446744073709551616 * c - 1 = 2 ^ (k + 1) * (s - 2 * 2 ^ (63 - (k + 1)) * c) := by
      have e1 : n * x - 1 - 18446744073709551616 * c = n * x - 18446744073709551616 * c - 1 := by omega
      rw [← e1, h3, hM]; generalize (2 : Int) ^ (63 - (k + 1)) = R; generalize (2 : Int) ^ (k + 1) = P; grind
    rw [e, Int.mul_ediv_cancel_left _ (by omega)]
    have hin : InU (s - 2 * 2 ^ (63 - (k + 1)) * c) := by
      have g1 := Int.emod_nonneg (n * x) (show (18446744073709551616 : Int) ≠ 0 by omega)
      have g2 := Int.emod_lt_of_pos (n * x) (show (0 : Int) < 18446744073709551616 by omega)
      rw [hc] at g1 g2
      have g3 : 0 ≤ 2 ^ (k + 1) * (s - 2 * 2 ^ (63 - (k + 1)) * c) := by rw [hc] at hodd; omega
      have g4 : 2 ^ (k + 1) * (s - 2 * 2 ^ (63 - (k + 1)) * c) < 18446744073709551616 := by omega
      generalize s - 2 * 2 ^ (63 - (k + 1)) * c = u at *
      have hu : 0 ≤ u := by
        by_cases hh : 0 ≤ u
        · exact hh
        · have := Int.mul_lt_mul_of_pos_left (show u < 0 by omega) hp; omega
      have := Int.mul_le_mul_of_nonneg_right (show (1 : Int) ≤ 2 ^ (k + 1) by omega) hu
      unfold InU; omega
    rw [and_one _ hin]
    have hs : s = (s - 2 * 2 ^ (63 - (k + 1)) * c) + 2 * (2 ^ (63 - (k + 1)) * c) := by grind
    generalize s - 2 * 2 ^ (63 - (k + 1)) * c = u at *
    generalize 2 ^ (63 - (k + 1)) * c = v at hs
    have hpw : (2 : Int) ^ (k + 1 + 1) = 2 * 2 ^ (k + 1) := pow_succ2 (k + 1)
    by_cases hu : u % 2 = 1
    · refine .inl ⟨by simp [hu], by omega, by omega, ?_⟩
      refine ⟨u / 2 + v + n / 2 + 1, ?_⟩
      rw [hpw]
      have a1 : s + n = 2 * (u / 2 + v + n / 2 + 1) := by omega
      generalize (2 : Int) ^ (k + 1) = P at *
      rw [show n * (x + P) - 1 = (n * x - 1) + n * P by grind, h3, show P * s + n * P = P * (s + n) by grind, a1]; grind
    · refine .inr ⟨by simp; omega, by omega, by omega, ?_⟩
      refine ⟨u / 2 + v, ?_⟩
      rw [hpw, h3]
      have a1 : s = 2 * (u / 2 + v) := by omega
      generalize u / 2 + v = q at *
      generalize (2 : Int) ^ (k + 1) = P at *
      rw [a1]; grind
theorem blen_step (a : Int) (h : 0 < a) : blen a = 1 + blen (a / 2) := by
  by_cases h1 : 0 < a / 2
  · exact blen_half a 1 (by simpa using h1)
  · have : a = 1 := by omega
    subst this; decide
end Go.Proofs.Ytamkbbpjbmoipaa.Wd
