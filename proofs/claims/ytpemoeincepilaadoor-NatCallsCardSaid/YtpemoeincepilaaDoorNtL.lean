/- Plain: laws of bits, of comparing, of digits by sixteen. -/
import Derived.Test.YtpemoeincepilaaDoorNtQ
set_option linter.unusedVariables false
set_option linter.unusedSimpArgs false
namespace Go.Proofs.YtpemoeincepilaaDoor.Nt

theorem bit_hi {n i : Nat} (h : n.testBit i = true) : i < bitsN n := by
  rcases Nat.lt_or_ge i (bitsN n) with h1 | h1
  · exact h1
  · rw [Nat.testBit_lt_two_pow (bitsN_iff.1 h1)] at h; cases h
theorem bit_top {n : Nat} (h : n ≠ 0) : n.testBit (bitsN n - 1) = true := by
  unfold bitsN; rw [if_neg h, Nat.add_sub_cancel]; exact Nat.testBit_log2 h
theorem bits_mul {a b : Nat} (ha : a ≠ 0) (hb : b ≠ 0) : bitsN (a * b) = bitsN a + bitsN b ∨ bitsN (a * b) = bitsN a + bitsN b - 1 := by
  obtain ⟨a1, a2⟩ := bitsN_le ha
  obtain ⟨b1, b2⟩ := bitsN_le hb
  have h1 := Nat.mul_le_mul a1 b1
  rw [← Nat.pow_add] at h1
  have h2 := Nat.mul_lt_mul'' (bitsN_lt a) (bitsN_lt b)
  rw [← Nat.pow_add] at h2
  have h3 : bitsN (a * b) ≤ bitsN a + bitsN b := bitsN_iff.2 h2
  have h4 : ¬ bitsN (a * b) ≤ bitsN a - 1 + (bitsN b - 1) := by rw [bitsN_iff]; omega
  omega
theorem bits_up {a : Nat} (k : Nat) (ha : a ≠ 0) : bitsN (a * 18446744073709551616 ^ k) = bitsN a + 64 * k := by
  obtain ⟨a1, a2⟩ := bitsN_le ha
  have a3 := bitsN_lt a
  rw [pow64]
  have h1 := Nat.mul_le_mul_right (2 ^ (64 * k)) a1
  have h2 : a * 2 ^ (64 * k) < 2 ^ bitsN a * 2 ^ (64 * k) := Nat.mul_lt_mul_of_pos_right a3 (Nat.two_pow_pos _)
  rw [← Nat.pow_add] at h1 h2
  rw [show bitsN a + 64 * k = (bitsN a - 1 + 64 * k) + 1 by omega]
  exact bitsN_eq h1 (by rw [show bitsN a - 1 + 64 * k + 1 = bitsN a + 64 * k by omega]; exact h2)
theorem cmp_neg (a b : Nat) : cmpN a b = - cmpN b a := by unfold cmpN; split <;> split <;> first | omega | (split <;> omega)
theorem cmp_zero {a b : Nat} : cmpN a b = 0 ↔ a = b := by unfold cmpN; split <;> first | omega | (split <;> omega)
theorem cmp_lt {a b : Nat} : cmpN a b < 0 ↔ a < b := by unfold cmpN; split <;> first | omega | (split <;> omega)
theorem cmp_bits {a b : Nat} (h : bitsN a ≠ bitsN b) : cmpN a b < 0 ↔ bitsN a < bitsN b := by
  rw [cmp_lt]
  have key : ∀ {x y : Nat}, bitsN x < bitsN y → x < y := by
    intro x y h
    have hy : y ≠ 0 := by rintro rfl; rw [bitsN_zero] at h; omega
    obtain ⟨y1, y2⟩ := bitsN_le hy
    exact Nat.lt_of_lt_of_le (bitsN_iff.1 (show bitsN x ≤ bitsN y - 1 by omega)) y1
  constructor
  · intro h1
    rcases Nat.lt_or_ge (bitsN a) (bitsN b) with h2 | h2
    · exact h2
    · have := key (show bitsN b < bitsN a by omega); omega
  · exact key

/-! Reading digits -/
/-- What a byte stands for; 16: none. -/
def dv (c : Nat) : Nat := if 48 ≤ c ∧ c ≤ 57 then c - 48 else if 97 ≤ c ∧ c ≤ 102 then c - 87 else if 65 ≤ c ∧ c ≤ 70 then c - 55 else 16
theorem dv_dig {d : Nat} (h : d < 16) : dv (dig d) = d := by
  unfold dig dv
  by_cases h1 : d < 10
  · rw [if_pos h1, if_pos (by omega)]; omega
  · rw [if_neg h1, if_neg (by omega), if_pos (by omega)]; omega
theorem dig_dv {c : Nat} (h : dv c < 16) : dig (dv c) = c ∨ dig (dv c) = c + 32 ∧ 65 ≤ c ∧ c ≤ 70 := by
  unfold dv at h ⊢
  by_cases h1 : 48 ≤ c ∧ c ≤ 57
  · rw [if_pos h1]; left; unfold dig; rw [if_pos (by omega)]; omega
  · rw [if_neg h1] at h ⊢
    by_cases h2 : 97 ≤ c ∧ c ≤ 102
    · rw [if_pos h2]; left; unfold dig; rw [if_neg (by omega)]; omega
    · rw [if_neg h2] at h ⊢
      by_cases h3 : 65 ≤ c ∧ c ≤ 70
      · rw [if_pos h3]; right; unfold dig; rw [if_neg (by omega)]; omega
      · rw [if_neg h3] at h; omega
theorem dv_zero {c : Nat} : dv c = 0 ↔ c = 48 := by
  unfold dv
  by_cases h1 : 48 ≤ c ∧ c ≤ 57
  · rw [if_pos h1]; omega
  · rw [if_neg h1]
    by_cases h2 : 97 ≤ c ∧ c ≤ 102
    · rw [if_pos h2]; omega
    · rw [if_neg h2]
      by_cases h3 : 65 ≤ c ∧ c ≤ 70
      · rw [if_pos h3]; omega
      · rw [if_neg h3]; omega
/-- The number that a text's digits are. -/
def rdT (s : List Nat) : Nat := rdN (s.map dv)
/-- Noughts ahead, one may stand. -/
def strip0 : List Nat → List Nat
  | [] => []
  | [c] => [c]
  | c :: d :: r => if c = 48 then strip0 (d :: r) else c :: d :: r
theorem strip0_ne : ∀ {s : List Nat}, s ≠ [] → strip0 s ≠ []
  | [], h => absurd rfl h
  | [c], _ => by simp [strip0]
  | c :: d :: r, _ => by
    unfold strip0
    split
    · exact strip0_ne (by simp)
    · simp
theorem rdT_cons48 (s : List Nat) : rdT (48 :: s) = rdT s := by
  unfold rdT
  rw [List.map_cons, rdN_cons, show dv 48 = 0 from rfl]; simp
/-- A text that is read is told without noughts ahead. -/
theorem text_read : ∀ {s : List Nat}, s ≠ [] → (∀ c ∈ s, dv c < 16) → textN (rdT s) = (strip0 s).map (fun c => dig (dv c))
  | [], h, _ => absurd rfl h
  | [c], _, h => by
    have hc := h c (by simp)
    have e : rdT [c] = dv c := by simp [rdT, rdN]
    rw [e]
    by_cases h0 : dv c = 0
    · rw [h0]; simp [textN, strip0, h0, dig]
    · unfold textN
      rw [if_neg h0]
      have e2 := ndig_rdN (d := dv c) (l := []) (fun x hx => by simp at hx; rw [hx]; exact hc) h0
      rw [show rdN [dv c] = dv c by simp [rdN]] at e2
      rw [e2]
      simp [digs, strip0, Nat.mod_eq_of_lt hc]
  | c :: d :: r, _, h => by
    by_cases h0 : c = 48
    · subst h0
      rw [rdT_cons48, text_read (s := d :: r) (by simp) (fun x hx => h x (List.mem_cons_of_mem _ hx)), strip0, if_pos rfl]
    · have hc0 : dv c ≠ 0 := fun e => h0 (dv_zero.1 e)
      rw [strip0, if_neg h0]
      have hm : ∀ x ∈ (c :: d :: r).map dv, x < 16 := by
        intro x hx
        obtain ⟨y, hy, rfl⟩ := List.mem_map.1 hx
        exact h y hy
      have e1 := ndig_rdN (d := dv c) (l := (d :: r).map dv) hm hc0
      have e2 := digs_rdN hm
      have hne : rdT (c :: d :: r) ≠ 0 := by
        intro e
        have e3 : ndig (rdT (c :: d :: r)) = 0 := by rw [e]; rfl
        unfold rdT at e3
        rw [List.map_cons, e1] at e3
        omega
      unfold textN
      rw [if_neg hne]
      have e4 : ndig (rdT (c :: d :: r)) = ((c :: d :: r).map dv).length := by
        unfold rdT
        rw [List.map_cons, e1]; simp
      rw [e4]
      unfold rdT
      rw [e2, List.map_map]; rfl
theorem digs_lt (n : Nat) : ∀ k, ∀ d ∈ digs n k, d < 16
  | 0, d, h => by cases h
  | k + 1, d, h => by
    rcases List.mem_cons.1 h with rfl | h
    · omega
    · exact digs_lt n k d h
theorem text_hex (n : Nat) : textN n ≠ [] ∧ ∀ c ∈ textN n, dv c < 16 := by
  unfold textN
  by_cases h : n = 0
  · rw [if_pos h]; exact ⟨by simp, fun c hc => by simp at hc; subst hc; decide⟩
  · rw [if_neg h]
    refine ⟨?_, fun c hc => ?_⟩
    · intro e
      have := congrArg List.length e
      rw [List.length_map, digs_len] at this
      have := (ndig_le h).2
      simp at *; omega
    · obtain ⟨d, hd, rfl⟩ := List.mem_map.1 hc
      have := digs_lt n _ d hd
      rw [dv_dig this]; exact this
theorem read_text (n : Nat) : rdT (textN n) = n := by
  unfold textN
  by_cases h : n = 0
  · rw [if_pos h, h]; rfl
  · rw [if_neg h]
    unfold rdT
    have e : (digs n (ndig n)).map (dv ∘ dig) = digs n (ndig n) := by
      have := List.map_congr_left (f := dv ∘ dig) (g := id) (l := digs n (ndig n)) (fun d hd => dv_dig (digs_lt n _ d hd))
      rw [this, List.map_id]
    rw [List.map_map, e, rdN_text]
theorem text_len (n : Nat) : (textN n).length = max 1 ((bitsN n + 3) / 4) := by
  unfold textN
  by_cases h : n = 0
  · rw [if_pos h, h]; rfl
  · rw [if_neg h, List.length_map, digs_len]
    have := (ndig_le h).2
    unfold ndig at *; omega
end Go.Proofs.YtpemoeincepilaaDoor.Nt
