/- Plain: bits of naturals; quotients bit by bit; digits by sixteen. -/
import Derived.Test.YtpemoeincepilaaDoorNtP
set_option linter.unusedVariables false
set_option linter.unusedSimpArgs false
namespace Go.Proofs.YtpemoeincepilaaDoor.Nt

theorem pow64 (i : Nat) : 18446744073709551616 ^ i = 2 ^ (64 * i) := by rw [Nat.pow_mul]
/-- The bits of a number are those of its limbs. -/
theorem lv_bit {l : List Nat} (h : okL l) (k : Nat) : (lv l).testBit k = (lmb l (k / 64)).testBit (k % 64) := by
  rw [lo_hi l (k / 64), hi_step, pow64]
  have h1 := lo_lt h (k / 64)
  rw [pow64] at h1
  rw [Nat.add_comm, Nat.testBit_two_pow_mul_add _ h1, if_neg (by omega)]
  have hk : k - 64 * (k / 64) = k % 64 := by omega
  rw [hk]
  have h2 := lmb_lt h (k / 64)
  rw [show (18446744073709551616 : Nat) = 2 ^ 64 from rfl] at h2 ⊢
  rw [Nat.add_comm, Nat.testBit_two_pow_mul_add _ h2, if_pos (by omega)]
/-- How many bits there are, up to the highest 1. -/
def bitsN (n : Nat) : Nat := if n = 0 then 0 else n.log2 + 1
theorem bitsN_zero : bitsN 0 = 0 := rfl
theorem bitsN_eq {n k : Nat} (h1 : 2 ^ k ≤ n) (h2 : n < 2 ^ (k + 1)) : bitsN n = k + 1 := by
  have h0 : n ≠ 0 := by have := Nat.two_pow_pos k; omega
  unfold bitsN
  rw [if_neg h0]
  have a1 := (Nat.le_log2 h0).2 h1
  have a2 := (Nat.log2_lt h0).2 h2
  omega
theorem bitsN_lt (n : Nat) : n < 2 ^ bitsN n := by
  unfold bitsN
  by_cases h : n = 0
  · subst h; simp
  · rw [if_neg h]; exact (Nat.log2_lt h).1 (by omega)
theorem bitsN_le {n : Nat} (h : n ≠ 0) : 2 ^ (bitsN n - 1) ≤ n ∧ 0 < bitsN n := by
  unfold bitsN
  rw [if_neg h]; exact ⟨(Nat.le_log2 h).1 (by omega), by omega⟩
theorem bitsN_iff {n k : Nat} : bitsN n ≤ k ↔ n < 2 ^ k := by
  constructor
  · intro h; exact Nat.lt_of_lt_of_le (bitsN_lt n) (Nat.pow_le_pow_right (by omega) h)
  · intro h
    by_cases h0 : n = 0
    · subst h0; rw [bitsN_zero]; omega
    · obtain ⟨h1, h2⟩ := bitsN_le h0
      have : 2 ^ (bitsN n - 1) < 2 ^ k := by omega
      have := (Nat.pow_lt_pow_iff_right (by omega : 1 < 2)).1 this
      omega
/-- Bits of trimmed limbs. -/
theorem bits_can {n L x : Nat} (hl : (can n).length = L + 1) (hx : (can n)[L]? = some x) : x ≠ 0 ∧ bitsN n = 64 * L + bitsN x ∧ x < 18446744073709551616 := by
  have h1 := lo_hi (can n) L
  have hx2 : x < 18446744073709551616 := can_ok n x (List.mem_of_getElem? hx)
  have hx0 : x ≠ 0 := can_trm n x (by rw [List.getLast?_eq_getElem?, hl]; exact hx)
  have h2 := lo_lt (can_ok n) L
  rw [hi_step, hi_out (by omega), lmb_get hx, lv_can, pow64, Nat.mul_zero, Nat.add_zero] at h1
  rw [pow64] at h2
  refine ⟨hx0, ?_, hx2⟩
  obtain ⟨b1, b2⟩ := bitsN_le hx0
  have b3 := bitsN_lt x
  have e1 : 2 ^ (64 * L) * 2 ^ (bitsN x - 1) ≤ 2 ^ (64 * L) * x := Nat.mul_le_mul_left _ b1
  have e2 : 2 ^ (64 * L) * (x + 1) ≤ 2 ^ (64 * L) * 2 ^ bitsN x := Nat.mul_le_mul_left _ (by omega)
  rw [← Nat.pow_add] at e1 e2
  rw [Nat.mul_add] at e2
  rw [show 64 * L + bitsN x = (64 * L + (bitsN x - 1)) + 1 by omega]
  exact bitsN_eq (by omega) (by rw [show 64 * L + (bitsN x - 1) + 1 = 64 * L + bitsN x by omega]; omega)
theorem bitsN_can_le (n : Nat) : bitsN n ≤ 64 * (can n).length := by
  rw [bitsN_iff, ← pow64]
  exact can_len.1 (Nat.le_refl _)

/-! Quotients -/
theorem or_bit {l : List Nat} {i : Nat} (h : okL l) (hi : i / 64 < l.length) (hd : lv l % 2 ^ (i + 1) = 0) :
    okL (l.set (i / 64) (lmb l (i / 64) ||| 2 ^ (i % 64))) ∧ lv (l.set (i / 64) (lmb l (i / 64) ||| 2 ^ (i % 64))) = lv l + 2 ^ i := by
  have hb : 2 ^ (i % 64) < 18446744073709551616 := by
    rw [show (18446744073709551616 : Nat) = 2 ^ 64 from rfl]
    exact Nat.pow_lt_pow_right (by omega) (by omega)
  have ho : lmb l (i / 64) ||| 2 ^ (i % 64) < 18446744073709551616 := Nat.or_lt_two_pow (n := 64) (lmb_lt h _) hb
  have hok := okL_set h (n := i / 64) ho
  refine ⟨hok, ?_⟩
  have e : lv l + 2 ^ i = lv l ||| 2 ^ i := by
    have h1 : lv l = 2 ^ (i + 1) * (lv l / 2 ^ (i + 1)) := by have := Nat.div_add_mod (lv l) (2 ^ (i + 1)); omega
    rw [h1]
    exact Nat.two_pow_add_eq_or_of_lt (Nat.pow_lt_pow_right (by omega) (by omega)) _
  rw [e]
  apply Nat.eq_of_testBit_eq
  intro k
  rw [lv_bit hok, Nat.testBit_or, lv_bit h, lmb_set hi]
  by_cases hk : k / 64 = i / 64
  · rw [if_pos hk, Nat.testBit_or, hk]
    congr 1
    rw [Nat.testBit_two_pow, Nat.testBit_two_pow]
    by_cases h2 : i = k
    · subst h2; simp
    · simp only [h2, decide_false, decide_eq_false_iff_not]; omega
  · rw [if_neg hk, Nat.testBit_two_pow]
    have : i ≠ k := by rintro rfl; exact hk rfl
    simp [this]
theorem div_half (A i : Nat) : A / 2 ^ i = 2 * (A / 2 ^ (i + 1)) + (A.testBit i).toNat := by
  rw [Nat.pow_succ, ← Nat.div_div_eq_div_mul, Nat.testBit_eq_decide_div_mod_eq]
  have h := Nat.div_add_mod (A / 2 ^ i) 2
  have h2 : A / 2 ^ i % 2 < 2 := Nat.mod_lt _ (by omega)
  rcases (by omega : A / 2 ^ i % 2 = 0 ∨ A / 2 ^ i % 2 = 1) with h3 | h3
  · rw [h3] at h ⊢; simp; omega
  · rw [h3] at h ⊢; simp; omega
/-- A step of a quotient, bit by bit. -/
theorem div_step {A b R i : Nat} (hb : b ≠ 0) (hR : R = (A / 2 ^ (i + 1)) % b) :
    (b ≤ 2 * R + (A.testBit i).toNat → 2 * R + (A.testBit i).toNat - b = (A / 2 ^ i) % b ∧ A / 2 ^ i / b * 2 ^ i = A / 2 ^ (i + 1) / b * 2 ^ (i + 1) + 2 ^ i) ∧
    (2 * R + (A.testBit i).toNat < b → 2 * R + (A.testBit i).toNat = (A / 2 ^ i) % b ∧ A / 2 ^ i / b * 2 ^ i = A / 2 ^ (i + 1) / b * 2 ^ (i + 1)) := by
  rw [div_half A i]
  generalize A / 2 ^ (i + 1) = X at *
  have ht : (A.testBit i).toNat ≤ 1 := by cases A.testBit i <;> simp
  generalize (A.testBit i).toNat = t at *
  have hq := Nat.div_add_mod X b
  rw [← hR] at hq
  have hRb : R < b := by rw [hR]; exact Nat.mod_lt _ (by omega)
  have e0 : 2 * X + t = b * (2 * (X / b)) + (2 * R + t) := by
    rw [← Nat.mul_assoc, Nat.mul_comm b 2, Nat.mul_assoc]; omega
  refine ⟨fun h => ?_, fun h => ?_⟩
  · have e1 : 2 * X + t = b * (2 * (X / b) + 1) + (2 * R + t - b) := by rw [e0, Nat.mul_add, Nat.mul_one]; omega
    have e2 : (2 * R + t - b) / b = 0 := Nat.div_eq_of_lt (by omega)
    rw [e1, Nat.mul_add_mod, Nat.mod_eq_of_lt (by omega), Nat.mul_add_div (by omega), e2]
    refine ⟨rfl, ?_⟩
    rw [Nat.add_zero, Nat.add_mul, Nat.pow_succ]; grind
  · rw [e0, Nat.mul_add_mod, Nat.mod_eq_of_lt h, Nat.mul_add_div (by omega), show (2 * R + t) / b = 0 from Nat.div_eq_of_lt h]
    refine ⟨rfl, ?_⟩
    rw [Nat.add_zero, Nat.pow_succ]; grind
/-- Twice a number, and a bit, limb by limb: what is put, what goes on. -/
theorem shift_step {a o : List Nat} {i c s c' c0 : Nat} (hl : o.length = i) (h : lv o + 18446744073709551616 ^ i * c = 2 * lo a i + c0) (hs : s + 18446744073709551616 * c' = 2 * lmb a i + c) :
    lv (o ++ [s]) + 18446744073709551616 ^ (i + 1) * c' = 2 * lo a (i + 1) + c0 := by
  subst hl
  rw [lv_snoc, lo_succ, Nat.pow_succ]
  generalize 18446744073709551616 ^ o.length = p at *
  have e : p * (s + 18446744073709551616 * c') = p * (2 * lmb a o.length + c) := by rw [hs]
  have e2 : p * (2 * lmb a o.length) = 2 * (p * lmb a o.length) := by rw [Nat.mul_left_comm]
  simp only [Nat.mul_add] at e
  rw [Nat.mul_assoc]
  omega
theorem set_mid {o a : List Nat} {i s : Nat} (hl : o.length = i) (hi : i < a.length) : (o ++ a.drop i).set i s = (o ++ [s]) ++ a.drop (i + 1) := by
  subst hl
  rw [List.set_append_right _ _ (Nat.le_refl _), Nat.sub_self, List.drop_eq_getElem_cons hi, List.set_cons_zero, List.append_assoc]; rfl
theorem get_mid {o a : List Nat} {i x : Nat} (hl : o.length = i) (hx : a[i]? = some x) : (o ++ a.drop i)[i]? = some x := by
  subst hl
  rw [List.getElem?_append_right (Nat.le_refl _), Nat.sub_self, List.getElem?_drop, Nat.add_zero, hx]

/-! Digits by sixteen -/
/-- A digit's byte. -/
def dig (d : Nat) : Nat := if d < 10 then 48 + d else 87 + d
/-- The lowest k digits, the highest first. -/
def digs (n : Nat) : Nat → List Nat
  | 0 => []
  | k + 1 => (n / 16 ^ k % 16) :: digs n k
theorem digs_len (n : Nat) : ∀ k, (digs n k).length = k
  | 0 => rfl
  | k + 1 => by rw [digs, List.length_cons, digs_len n k]
/-- How many digits. -/
def ndig (n : Nat) : Nat := (bitsN n + 3) / 4
/-- A number's digits. -/
def textN (n : Nat) : List Nat := if n = 0 then [48] else (digs n (ndig n)).map dig
/-- The number of digits, the highest first. -/
def rdN (l : List Nat) : Nat := l.foldl (fun n d => 16 * n + d) 0
theorem foldl_rd (l : List Nat) (n : Nat) : l.foldl (fun n d => 16 * n + d) n = 16 ^ l.length * n + rdN l := by
  unfold rdN
  induction l generalizing n with
  | nil => simp
  | cons x l ih =>
    simp only [List.foldl_cons, List.length_cons]
    rw [ih, ih (16 * 0 + x), Nat.pow_succ, Nat.mul_add]
    grind
theorem rdN_cons (d : Nat) (l : List Nat) : rdN (d :: l) = 16 ^ l.length * d + rdN l := by
  show (d :: l).foldl _ 0 = _
  rw [List.foldl_cons, foldl_rd]; simp
theorem rdN_app (a b : List Nat) : rdN (a ++ b) = 16 ^ b.length * rdN a + rdN b := by
  show (a ++ b).foldl _ 0 = _
  rw [List.foldl_append, foldl_rd]; rfl
theorem rdN_digs (n : Nat) : ∀ k, rdN (digs n k) = n % 16 ^ k
  | 0 => by simp [digs, rdN, Nat.mod_one]
  | k + 1 => by
    rw [digs, rdN_cons, digs_len, rdN_digs n k, Nat.pow_succ, Nat.mod_mul]; omega
theorem rdN_lt : ∀ {l : List Nat}, (∀ d ∈ l, d < 16) → rdN l < 16 ^ l.length
  | [], _ => by simp [rdN]
  | d :: l, h => by
    have ih := rdN_lt (l := l) (fun x hx => h x (List.mem_cons_of_mem _ hx))
    have hd := h d List.mem_cons_self
    rw [rdN_cons, List.length_cons, Nat.pow_succ]
    have : 16 ^ l.length * (d + 1) ≤ 16 ^ l.length * 16 := Nat.mul_le_mul_left _ (by omega)
    rw [Nat.mul_add] at this; omega
theorem pow16 (k : Nat) : 16 ^ k = 2 ^ (4 * k) := by rw [Nat.pow_mul]
theorem ndig_lt (n : Nat) : n < 16 ^ ndig n := by
  rw [pow16]
  refine Nat.lt_of_lt_of_le (bitsN_lt n) (Nat.pow_le_pow_right (by omega) ?_)
  unfold ndig; omega
theorem ndig_le {n : Nat} (h : n ≠ 0) : 16 ^ (ndig n - 1) ≤ n ∧ 0 < ndig n := by
  obtain ⟨h1, h2⟩ := bitsN_le h
  have : 0 < ndig n := by unfold ndig; omega
  refine ⟨?_, this⟩
  rw [pow16]
  refine Nat.le_trans (Nat.pow_le_pow_right (by omega) ?_) h1
  unfold ndig; omega
theorem rdN_text (n : Nat) : rdN (digs n (ndig n)) = n := by rw [rdN_digs, Nat.mod_eq_of_lt (ndig_lt n)]
/-- Digits without a nought ahead are the digits of their number. -/
theorem digs_rdN : ∀ {l : List Nat}, (∀ d ∈ l, d < 16) → digs (rdN l) l.length = l
  | [], _ => rfl
  | d :: l, h => by
    have hl : ∀ x ∈ l, x < 16 := fun x hx => h x (List.mem_cons_of_mem _ hx)
    have ih := digs_rdN hl
    have hd := h d List.mem_cons_self
    have h1 := rdN_lt hl
    rw [List.length_cons, digs, rdN_cons]
    have e1 : (16 ^ l.length * d + rdN l) / 16 ^ l.length % 16 = d := by
      rw [Nat.mul_add_div (Nat.pow_pos (by omega)), Nat.div_eq_of_lt h1, Nat.add_zero, Nat.mod_eq_of_lt hd]
    rw [e1]
    have e2 : ∀ k, k ≤ l.length → digs (16 ^ l.length * d + rdN l) k = digs (rdN l) k := by
      intro k
      induction k with
      | zero => intro _; rfl
      | succ k ihk =>
        intro hk
        rw [digs, digs, ihk (by omega)]
        congr 1
        have : 16 ^ l.length = 16 ^ k * (16 ^ (l.length - k - 1) * 16) := by rw [← Nat.pow_succ, ← Nat.pow_add]; congr 1; omega
        rw [this, Nat.mul_assoc, Nat.mul_add_div (Nat.pow_pos (by omega)), Nat.mul_comm _ 16, Nat.mul_assoc, Nat.mul_add_mod]
    rw [e2 _ (Nat.le_refl _), ih]
theorem ndig_rdN {d : Nat} {l : List Nat} (h : ∀ x ∈ d :: l, x < 16) (hd : d ≠ 0) : ndig (rdN (d :: l)) = l.length + 1 := by
  have h1 := rdN_lt h
  have h2 : 16 ^ l.length ≤ rdN (d :: l) := by
    rw [rdN_cons]
    have : 16 ^ l.length * 1 ≤ 16 ^ l.length * d := Nat.mul_le_mul_left _ (by omega)
    omega
  rw [List.length_cons] at h1
  have h0 : rdN (d :: l) ≠ 0 := by have := Nat.pow_pos (n := l.length) (show 0 < 16 by omega); omega
  obtain ⟨b1, b2⟩ := ndig_le h0
  have b3 := ndig_lt (rdN (d :: l))
  have c1 := (Nat.pow_lt_pow_iff_right (by omega : 1 < 16)).1 (Nat.lt_of_le_of_lt b1 h1)
  have c2 := (Nat.pow_lt_pow_iff_right (by omega : 1 < 16)).1 (Nat.lt_of_le_of_lt h2 b3)
  omega
/-- A digit out of a limb. -/
theorem dig_limb {l : List Nat} (h : okL l) (k : Nat) : lv l / 16 ^ k % 16 = (lmb l (k / 16) >>> (4 * (k % 16))) &&& 15 := by
  have e : (15 : Nat) = 2 ^ 4 - 1 := rfl
  rw [e, Nat.and_two_pow_sub_one_eq_mod, Nat.shiftRight_eq_div_pow, pow16]
  apply Nat.eq_of_testBit_eq
  intro j
  rw [show (16 : Nat) = 2 ^ 4 from rfl, Nat.testBit_mod_two_pow, Nat.testBit_mod_two_pow, Nat.testBit_div_two_pow, Nat.testBit_div_two_pow]
  by_cases hj : j < 4
  · rw [lv_bit h]
    have e1 : (j + 4 * k) / 64 = k / 2 ^ 4 := by omega
    have e2 : (j + 4 * k) % 64 = j + 4 * (k % 2 ^ 4) := by omega
    rw [e1, e2]
  · simp [hj]
end Go.Proofs.YtpemoeincepilaaDoor.Nt
