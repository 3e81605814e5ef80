/- Listing, plain: the last of a row's bytes that is + or - (as strings.LastIndexAny goes); encodings of runes; what ParseInt and Atoi answer. -/
import Derived.Lib.SpaceU
import Derived.Lib.ParseIntB
set_option linter.unusedVariables false
set_option linter.unusedSimpArgs false
namespace Go.Proofs.YtokcamgipnaoeaaGreatDoor.Ls
open Go
theorem dec_high (s : ByteArray) (i : Nat) (h : 128 ≤ (s.get! i).toNat) : 128 ≤ (Utf8.decode s i).1 ∧ Utf8.valid ((Utf8.decode s i).1 : Int) = true ∧ ∀ k, k < (Utf8.decode s i).2 → 128 ≤ (s.get! (i + k)).toNat := by
  have h0 : ∀ k, k < 1 → 128 ≤ (s.get! (i + k)).toNat := fun k hk => by
    obtain rfl : k = 0 := by omega
    exact h
  have hq : ¬ (s.get! (i + 0)).toNat < 0x80 := by rw [Nat.add_zero]; omega
  have hv : Utf8.valid ((65533 : Nat) : Int) = true := by decide
  unfold Utf8.decode Utf8.runeError
  simp only
  rw [if_neg hq]
  split
  · rename_i h1
    simp only [Bool.and_eq_true, beq_iff_eq, decide_eq_true_eq] at h1
    split
    · rename_i h2
      have hb := UInt8.toNat_lt (s.get! (i + 0))
      refine ⟨h2, ?_, fun k hk => ?_⟩
      · unfold Utf8.valid; simp only [Bool.or_eq_true, Bool.and_eq_true, decide_eq_true_eq]; left; omega
      · have : k = 0 ∨ k = 1 := by simp only at hk; omega
        rcases this with rfl | rfl
        · omega
        · omega
    · exact ⟨by decide, hv, h0⟩
  · split
    · rename_i h1
      simp only [Bool.and_eq_true, beq_iff_eq, decide_eq_true_eq] at h1
      split
      · rename_i h2
        simp only [Bool.and_eq_true, decide_eq_true_eq] at h2
        refine ⟨by simp only; omega, h2.2, fun k hk => ?_⟩
        have : k = 0 ∨ k = 1 ∨ k = 2 := by simp only at hk; omega
        rcases this with rfl | rfl | rfl <;> omega
      · exact ⟨by decide, hv, h0⟩
    · split
      · rename_i h1
        simp only [Bool.and_eq_true, beq_iff_eq, decide_eq_true_eq] at h1
        split
        · rename_i h2
          simp only [Bool.and_eq_true, decide_eq_true_eq] at h2
          refine ⟨by simp only; omega, h2.2, fun k hk => ?_⟩
          have : k = 0 ∨ k = 1 ∨ k = 2 ∨ k = 3 := by simp only at hk; omega
          rcases this with rfl | rfl | rfl | rfl <;> omega
        · exact ⟨by decide, hv, h0⟩
      · exact ⟨by decide, hv, h0⟩
theorem dec_low (s : ByteArray) (i : Nat) (h : (s.get! i).toNat < 128) : (Utf8.decode s i).2 = 1 := by
  unfold Utf8.decode
  have hq : (s.get! (i + 0)).toNat < 0x80 := by rw [Nat.add_zero]; omega
  simp only
  rw [if_pos hq]
def pm (b : UInt8) : Bool := b == 43 || b == 45
def lastS (l : List UInt8) : Nat → Int
  | 0 => -1
  | n + 1 => if pm (l.getD n 0) then (n : Int) else lastS l n
theorem lastS_skip (l : List UInt8) (m : Nat) : ∀ n, m ≤ n → (∀ j, m ≤ j → j < n → pm (l.getD j 0) = false) → lastS l n = lastS l m
  | 0, h, _ => by obtain rfl : m = 0 := by omega
                  rfl
  | n + 1, h, hj => by
    rcases Nat.lt_or_ge n m with h1 | h1
    · obtain rfl : m = n + 1 := by omega
      rfl
    · show (if pm (l.getD n 0) then (n : Int) else lastS l n) = _
      rw [hj n h1 (by omega)]
      exact lastS_skip l m n h1 (fun j a b => hj j a (by omega))
theorem lastS_range (l : List UInt8) : ∀ n, -1 ≤ lastS l n ∧ lastS l n < n
  | 0 => ⟨by simp [lastS], by simp [lastS]⟩
  | n + 1 => by
    show -1 ≤ (if pm (l.getD n 0) then (n : Int) else lastS l n) ∧ (if pm (l.getD n 0) then (n : Int) else lastS l n) < ((n + 1 : Nat) : Int)
    have := lastS_range l n
    split <;> omega
theorem pm_high {b : UInt8} (h : 128 ≤ b.toNat) : pm b = false := by
  have h1 : b ≠ 43 := fun e => by subst e; revert h; decide
  have h2 : b ≠ 45 := fun e => by subst e; revert h; decide
  simp [pm, h1, h2]
theorem last_low (l : List UInt8) (n : Nat) (hn : n < l.length) (h : (l.getD n 0).toNat < 128) : Lib.decodeLastL (l.take (n + 1)) = ((l.getD n 0).toNat, 1) := by
  have hl : (l.take (n + 1)).length = n + 1 := by rw [List.length_take]; omega
  have hg : (l.take (n + 1)).getD ((l.take (n + 1)).length - 1) 0 = l.getD n 0 := by
    rw [hl, Nat.add_sub_cancel, List.getD_eq_getElem?_getD, List.getD_eq_getElem?_getD, List.getElem?_take_of_lt (by omega)]
  unfold Lib.decodeLastL
  rw [if_neg (fun e => by rw [e] at hl; simp at hl), hg, if_pos h]
theorem lastStart_lt' (l : List UInt8) (h : l ≠ []) : Lib.lastStart l < l.length := by
  have : 0 < l.length := List.length_pos_iff.2 h
  unfold Lib.lastStart
  simp only
  repeat' split
  all_goals omega
theorem getD_get' (l : List UInt8) (i : Nat) : (⟨l.toArray⟩ : ByteArray).get! i = l.getD i 0 := by
  show l.toArray[i]! = _
  rw [Array.getElem!_eq_getD, Array.getD_eq_getD_getElem?, List.getElem?_toArray, List.getD_eq_getElem?_getD]; rfl
theorem last_high (l : List UInt8) (n : Nat) (hn : n < l.length) (h : 128 ≤ (l.getD n 0).toNat) :
    128 ≤ (Lib.decodeLastL (l.take (n + 1))).1 ∧ Utf8.valid ((Lib.decodeLastL (l.take (n + 1))).1 : Int) = true ∧ 1 ≤ (Lib.decodeLastL (l.take (n + 1))).2 ∧ (Lib.decodeLastL (l.take (n + 1))).2 ≤ n + 1 ∧
    ∀ j, n + 1 - (Lib.decodeLastL (l.take (n + 1))).2 ≤ j → j < n + 1 → pm (l.getD j 0) = false := by
  have hl : (l.take (n + 1)).length = n + 1 := by rw [List.length_take]; omega
  have hgk : ∀ k, k < n + 1 → (l.take (n + 1)).getD k 0 = l.getD k 0 := fun k hk => by
    rw [List.getD_eq_getElem?_getD, List.getD_eq_getElem?_getD, List.getElem?_take_of_lt hk]
  have hne : l.take (n + 1) ≠ [] := fun e => by rw [e] at hl; simp at hl
  have hst := lastStart_lt' _ hne
  rw [hl] at hst
  have hg : (l.take (n + 1)).getD ((l.take (n + 1)).length - 1) 0 = l.getD n 0 := by
    rw [hl, Nat.add_sub_cancel]; exact hgk n (by omega)
  have hG : ∀ st k, st + k < n + 1 → (⟨((l.take (n + 1)).drop st).toArray⟩ : ByteArray).get! k = l.getD (st + k) 0 := fun st k hk => by
    rw [getD_get', List.getD_eq_getElem?_getD, List.getElem?_drop, ← List.getD_eq_getElem?_getD]; exact hgk _ hk
  have hone : 128 ≤ ((Utf8.runeError, 1) : Nat × Nat).1 ∧ Utf8.valid ((((Utf8.runeError, 1) : Nat × Nat).1 : Nat) : Int) = true ∧ 1 ≤ ((Utf8.runeError, 1) : Nat × Nat).2 ∧ ((Utf8.runeError, 1) : Nat × Nat).2 ≤ n + 1 ∧ ∀ j, n + 1 - ((Utf8.runeError, 1) : Nat × Nat).2 ≤ j → j < n + 1 → pm (l.getD j 0) = false := by
    refine ⟨by decide, by decide, by decide, by simp only; omega, fun j a b => ?_⟩
    simp only at a
    obtain rfl : j = n := by omega
    exact pm_high h
  unfold Lib.decodeLastL
  rw [if_neg hne, hg, if_neg (by omega)]
  simp only [hl]
  generalize Lib.lastStart (l.take (n + 1)) = st at hst ⊢
  unfold Lib.decodeL
  split
  · rename_i he
    rcases Nat.lt_or_ge (l.getD st 0).toNat 128 with hlo | hhi
    · have := dec_low ⟨((l.take (n + 1)).drop st).toArray⟩ 0 (by rw [hG st 0 (by omega)]; exact hlo)
      rw [this] at he
      obtain rfl : st = n := by omega
      omega
    · obtain ⟨a, b, c⟩ := dec_high ⟨((l.take (n + 1)).drop st).toArray⟩ 0 (by rw [hG st 0 (by omega)]; exact hhi)
      refine ⟨a, b, by omega, by omega, fun j hj1 hj2 => ?_⟩
      have := c (j - st) (by omega)
      rw [Nat.zero_add, hG st (j - st) (by omega), show st + (j - st) = j by omega] at this
      exact pm_high this
  · exact hone
theorem enc_high (r : Int) (h : 128 ≤ r) (hv : Utf8.valid r = true) : ∃ l : List UInt8, Utf8.encode r = ⟨l.toArray⟩ ∧ 2 ≤ l.length ∧ l.length ≤ 4 ∧ ∀ b ∈ l, 128 ≤ b.toNat := by
  have hb : r ≤ 0x10FFFF := by
    unfold Utf8.valid at hv; simp only [Bool.or_eq_true, Bool.and_eq_true, decide_eq_true_eq] at hv; omega
  obtain ⟨c, rfl⟩ := Int.eq_ofNat_of_zero_le (by omega : 0 ≤ r)
  have h8 : ∀ n : Nat, (UInt8.ofNat n).toNat = n % 256 := fun n => by simp
  unfold Utf8.encode
  simp only [hv, if_true, Int.toNat_natCast]
  rw [if_neg (by omega)]
  split
  · refine ⟨[_, _], rfl, by simp, by simp, fun b hb => ?_⟩
    simp only [List.mem_cons, List.not_mem_nil, or_false] at hb
    rcases hb with rfl | rfl <;> rw [h8] <;> omega
  · split
    · refine ⟨[_, _, _], rfl, by simp, by simp, fun b hb => ?_⟩
      simp only [List.mem_cons, List.not_mem_nil, or_false] at hb
      rcases hb with rfl | rfl | rfl <;> rw [h8] <;> omega
    · refine ⟨[_, _, _, _], rfl, by simp, by simp, fun b hb => ?_⟩
      simp only [List.mem_cons, List.not_mem_nil, or_false] at hb
      rcases hb with rfl | rfl | rfl | rfl <;> rw [h8] <;> omega
theorem parse_ok {l : List UInt8} {v : Int} (h : Lib.parseIntB 64 l = .ok v) : -9223372036854775808 ≤ v ∧ v ≤ 9223372036854775807 := by
  unfold Lib.parseIntB at h
  cases l with
  | nil => cases h
  | cons c r =>
    simp only at h
    split at h
    · cases h
    · cases h
    · split at h
      · cases h
      · split at h
        · cases h
        · rename_i a b
          injection h with h
          have hp : (2 : Nat) ^ (64 - 1) = 9223372036854775808 := by decide
          rw [hp] at a b
          subst h
          split <;> omega
theorem atoi_ok {l : List UInt8} {v : Int} (h : Lib.atoiAll l = .ok v) : -9223372036854775808 ≤ v ∧ v ≤ 9223372036854775807 := by
  unfold Lib.atoiAll at h
  cases l with
  | nil => cases h
  | cons c r =>
    simp only at h
    split at h
    · cases h
    · cases h
    · split at h
      · cases h
      · split at h
        · cases h
        · rename_i a b
          injection h with h
          subst h
          split <;> omega
def parI (l : List UInt8) : Int := match Lib.parseIntB 64 l with | .ok v => v | .range => Lib.intSat 64 l | _ => 0
def parOk (l : List UInt8) : Bool := match Lib.parseIntB 64 l with | .ok _ => true | _ => false
def atoV (l : List UInt8) : Int := match Lib.atoiAll l with | .ok v => v | .range => Lib.atoiSat l | _ => 0
theorem parI_64 (l : List UInt8) : -9223372036854775808 ≤ parI l ∧ parI l ≤ 9223372036854775807 := by
  unfold parI
  split
  · rename_i v h; exact parse_ok h
  · unfold Lib.intSat; split <;> decide
  · decide
theorem atoV_64 (l : List UInt8) : -9223372036854775808 ≤ atoV l ∧ atoV l ≤ 9223372036854775807 := by
  unfold atoV
  split
  · rename_i v h; exact atoi_ok h
  · unfold Lib.atoiSat; split <;> decide
  · decide
end Go.Proofs.YtokcamgipnaoeaaGreatDoor.Ls
