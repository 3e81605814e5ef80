/- Plain laws on chosen bits of words, and on how many bits a word has (chapter 1). No program in sight. -/
import Derived.Test.YtamkbbpjbmoipaaWord
namespace Go.Proofs.Ytamkbbpjbmoipaa.Wd
open Go

theorem xor_lt {x y : Nat} (hx : x < 18446744073709551616) (hy : y < 18446744073709551616) : x ^^^ y < 18446744073709551616 :=
  Nat.xor_lt_two_pow (n := 64) hx hy
theorem and_lt {x y : Nat} (hx : x < 18446744073709551616) : x &&& y < 18446744073709551616 :=
  Nat.lt_of_le_of_lt Nat.and_le_left hx
def chooseN (m a b : Nat) : Nat := b ^^^ (m &&& (a ^^^ b))
theorem choose_nat (m a b : Nat) (hm : m < 18446744073709551616) (ha : a < 18446744073709551616) (hb : b < 18446744073709551616) :
    chooseI m a b = (chooseN m a b : Nat) := by
  unfold chooseI chooseN
  rw [u64_xor_nat a b ha hb, u64_and_nat m _ hm (xor_lt ha hb), u64_xor_nat b _ hb (and_lt hm)]
theorem chooseN_lt (m a b : Nat) (hm : m < 18446744073709551616) (hb : b < 18446744073709551616) : chooseN m a b < 18446744073709551616 :=
  xor_lt hb (and_lt hm)
theorem of_inU {a : Int} (h : InU a) : ∃ n : Nat, a = n ∧ n < 18446744073709551616 := ⟨a.toNat, by unfold InU at h; omega, by unfold InU at h; omega⟩
theorem bit_nat (x i : Nat) (hx : x < 18446744073709551616) : bits BinOp.and IntKind.u64 ((x : Int) / 2 ^ i) 1 = ((x.testBit i).toNat : Int) := by
  have e : ((x : Int) / 2 ^ i) = ((x / 2 ^ i : Nat) : Int) := by rw [Int.natCast_ediv]; simp
  rw [e, and_one _ (by have := Nat.div_le_self x (2 ^ i); generalize x / 2 ^ i = y at *; unfold InU; omega)]
  rw [Nat.testBit_eq_decide_div_mod_eq]
  have h2 : x / 2 ^ i % 2 = 0 ∨ x / 2 ^ i % 2 = 1 := by omega
  rcases h2 with h | h <;> simp [h] <;> omega
theorem choose_bit (m a b : Int) (i : Nat) (hm : InU m) (ha : InU a) (hb : InU b) :
    ((bits BinOp.and IntKind.u64 (m / 2 ^ i) 1 == 1) = true ∧ (bits BinOp.and IntKind.u64 (chooseI m a b / 2 ^ i) 1 == bits BinOp.and IntKind.u64 (a / 2 ^ i) 1) = true) ∨
    ((bits BinOp.and IntKind.u64 (m / 2 ^ i) 1 == 1) = false ∧ (bits BinOp.and IntKind.u64 (chooseI m a b / 2 ^ i) 1 == bits BinOp.and IntKind.u64 (b / 2 ^ i) 1) = true) := by
  obtain ⟨m, rfl, km⟩ := of_inU hm
  obtain ⟨a, rfl, ka⟩ := of_inU ha
  obtain ⟨b, rfl, kb⟩ := of_inU hb
  rw [choose_nat m a b km ka kb, bit_nat m i km, bit_nat a i ka, bit_nat b i kb, bit_nat _ i (chooseN_lt m a b km kb)]
  unfold chooseN
  simp only [Nat.testBit_xor, Nat.testBit_and]
  cases m.testBit i <;> cases a.testBit i <;> cases b.testBit i <;> simp
theorem choose_xor (m a b : Int) (hm : InU m) (ha : InU a) (hb : InU b) :
    (bits BinOp.xor IntKind.u64 (chooseI m a b) (chooseI m b a) == bits BinOp.xor IntKind.u64 a b) = true := by
  obtain ⟨m, rfl, km⟩ := of_inU hm
  obtain ⟨a, rfl, ka⟩ := of_inU ha
  obtain ⟨b, rfl, kb⟩ := of_inU hb
  rw [choose_nat m a b km ka kb, choose_nat m b a km kb ka, u64_xor_nat _ _ (chooseN_lt m a b km kb) (chooseN_lt m b a km ka), u64_xor_nat a b ka kb]
  rw [beq_iff_eq]
  congr 1
  unfold chooseN
  apply Nat.eq_of_testBit_eq
  intro i
  simp only [Nat.testBit_xor, Nat.testBit_and]
  cases m.testBit i <;> cases a.testBit i <;> cases b.testBit i <;> simp
theorem choose_mask (is : Bool) (a b : Int) (ha : InU a) (hb : InU b) : chooseI (maskOf is) a b = if is then a else b := by
  obtain ⟨a, rfl, ka⟩ := of_inU ha
  obtain ⟨b, rfl, kb⟩ := of_inU hb
  cases is
  · have := choose_nat 0 a b (by omega) ka kb
    rw [show maskOf false = ((0 : Nat) : Int) from rfl, this]
    simp [chooseN]
  · have := choose_nat 18446744073709551615 a b (by omega) ka kb
    rw [show maskOf true = ((18446744073709551615 : Nat) : Int) from rfl, this, if_pos rfl]
    congr 1
    unfold chooseN
    apply Nat.eq_of_testBit_eq
    intro i
    rw [show 18446744073709551615 = 2 ^ 64 - 1 from rfl]
    simp only [Nat.testBit_xor, Nat.testBit_and, Nat.testBit_two_pow_sub_one]
    by_cases h : i < 64
    · simp only [h, decide_true, Bool.true_and]; cases a.testBit i <;> cases b.testBit i <;> rfl
    · have e1 : a.testBit i = false := Nat.testBit_lt_two_pow (Nat.lt_of_lt_of_le ka (Nat.pow_le_pow_right (n := 2) (by omega) (show 64 ≤ i by omega)))
      have e2 : b.testBit i = false := Nat.testBit_lt_two_pow (Nat.lt_of_lt_of_le kb (Nat.pow_le_pow_right (n := 2) (by omega) (show 64 ≤ i by omega)))
      simp [e1, e2]
theorem inU_choose (m a b : Int) (hm : InU m) (ha : InU a) (hb : InU b) : InU (chooseI m a b) := by
  obtain ⟨m, rfl, km⟩ := of_inU hm
  obtain ⟨a, rfl, ka⟩ := of_inU ha
  obtain ⟨b, rfl, kb⟩ := of_inU hb
  rw [choose_nat m a b km ka kb]
  have := chooseN_lt m a b km kb
  unfold InU; omega
theorem blen_le (a : Int) (ha : InU a) : 0 ≤ blen a ∧ blen a ≤ 64 := by
  unfold blen; split
  · omega
  · have h : Nat.log2 a.toNat < 64 := (Nat.log2_lt (by omega)).2 (by unfold InU at ha; omega)
    omega
theorem blen_nat (a : Int) (ha : InU a) : ∃ n : Nat, blen a = n ∧ n ≤ 64 ∧ (n < 64 → (a / 2 ^ n == 0) = true) ∧ (∀ k, n = k + 1 → (a / 2 ^ k == 1) = true) := by
  have h1 := blen_le a ha
  refine ⟨(blen a).toNat, by omega, by omega, ?_, ?_⟩
  · intro _
    by_cases h0 : 0 < a
    · have h := blen_spec a h0
      rw [beq_iff_eq]
      exact Int.ediv_eq_zero_of_lt ha.1 h.2.2
    · have : a = 0 := by have := ha.1; omega
      subst this; simp
  · intro k hk
    have h0 : 0 < a := by
      by_cases h0 : 0 < a
      · exact h0
      · unfold blen at hk; rw [if_pos (by omega)] at hk; simp at hk
    have h := blen_spec a h0
    rw [show (blen a - 1).toNat = k by omega, hk, Int.pow_succ] at h
    rw [beq_iff_eq]
    have hp : (0 : Int) < 2 ^ k := Int.pow_pos (by omega)
    have h3 : 1 ≤ a / 2 ^ k := (Int.le_ediv_iff_mul_le hp).2 (by omega)
    have h4 : a / 2 ^ k < 2 := (Int.ediv_lt_iff_lt_mul hp).2 (by omega)
    omega
end Go.Proofs.Ytamkbbpjbmoipaa.Wd
