/- More walks of package word (chapter 1): the quotient, the number of bits. Conditions: the arguments are words of 64 bits. -/
import Derived.Test.YtamkbbpjbmoipaaWordW
import Derived.Test.YtamkbbpjbmoipaaWordB
import Derived.Deep.QuietTactic
import Derived.BigQuiet
namespace Go.Proofs.Ytamkbbpjbmoipaa
open Go.RowKit Wd

set_option maxHeartbeats 1000000 in
theorem div_any (h l b : Int) (w : World) (hh : InU h) (hl : InU l) (hb : InU b) :
    Calls Try.prog 18 #[.int .u64 h, .int .u64 l, .int .u64 b] w fun e w' => e = .returned (.tuple #[.int .u64 (quo h l b), .int .u64 (rem h l b), .bool (decide (h < b))]) ∧ w = w' := by
  by_cases hlt : h < b
  · have hs := hidd (div_start h l b hh hl hlt)
    have hq : Hid (quo h l b = (h * 18446744073709551616 + l) / b ∧ rem h l b = (h * 18446744073709551616 + l) % b) := by constructor <;> simp [quo, rem, hlt]
    have hd : decide (h < b) = true := by simpa using hlt
    go_enter Try.func18, Try.ntmps18
    go_wp2
    go_loop [1, 6, 7, 14] (fun l' q r i => ∃ (k : Nat) (x y z : Int), k ≤ 64 ∧ i = .int .i64 k ∧ l' = .int .u64 x ∧ q = .int .u64 y ∧ r = .int .u64 z ∧ DivInv (h * 18446744073709551616 + l) b k z x y) (fun _ _ _ i => (64 - intOf i).toNat)
    case atStart => exact ⟨0, _, _, _, by omega, rfl, rfl, rfl, rfl, hs.out⟩
    case round =>
      obtain ⟨k, x, y, z, hk, rfl, rfl, rfl, rfl, hi⟩ := hrel
      have hbz : 0 ≤ z ∧ z < 18446744073709551616 := by obtain ⟨t, _, _, _, h4, h5, _⟩ := hi; have := hb.2; omega
      by_cases hk64 : k < 64
      · have hst := div_step _ b k z x y hk64 hb hi
        dsimp only at hst
        clear hi
        by_cases c1 : 9223372036854775808 ≤ z
        · rw [if_pos (Or.inl c1)] at hst
          have hst' := hidd hst
          clear hst
          have c1' : (z / 9223372036854775808 == 1) = true := by simp; omega
          clear hbz c1
          go_wp2
          go_round
          case rel => exact ⟨k + 1, _, _, _, by omega, by go_num, rfl, rfl, rfl, hst'.out⟩
          case measure => simp [intOf]; omega
        · have c1' : (z / 9223372036854775808 == 1) = false := by simp; omega
          by_cases c2 : b ≤ bits BinOp.or IntKind.u64 (IntKind.u64.wrap (z * 2)) (x / 9223372036854775808)
          · rw [if_pos (Or.inr c2)] at hst
            have hst' := hidd hst
            clear hst hbz c1
            go_wp2
            go_round
            case rel => exact ⟨k + 1, _, _, _, by omega, by go_num, rfl, rfl, rfl, hst'.out⟩
            case measure => simp [intOf]; omega
          · rw [if_neg (by omega)] at hst
            have hst' := hidd hst
            clear hst hbz c1
            go_wp2
            go_round
            case rel => exact ⟨k + 1, _, _, _, by omega, by go_num, rfl, rfl, rfl, hst'.out⟩
            case measure => simp [intOf]; omega
      · have ek : k = 64 := by omega
        subst ek
        have he := hidd (div_end _ _ _ _ _ hi)
        clear hi
        go_wp2
        go_ret3
        exact ⟨ret_uub (by rw [hq.out.1, he.out.1]) (by rw [hq.out.2, he.out.2]) rfl, rfl⟩
  · have hq : Hid (quo h l b = 0 ∧ rem h l b = 0) := by constructor <;> simp [quo, rem, hlt]
    have hd : decide (h < b) = false := by simpa using hlt
    go_enter Try.func18, Try.ntmps18
    go_wp2
    go_ret3
    exact ⟨ret_uub hq.out.1.symm hq.out.2.symm rfl, rfl⟩

theorem blen_small (a : Int) (h : 0 ≤ a ∧ a ≤ 1) : blen a = a := by
  have : a = 0 ∨ a = 1 := by omega
  rcases this with rfl | rfl <;> decide
def BitsInv (a0 : Int) (m : Nat) (n a : Int) : Prop := 0 ≤ a ∧ 0 ≤ n ∧ n ≤ 64 ∧ n + blen a = blen a0 ∧
  (m = 32 ∧ a < 18446744073709551616 ∨ m = 16 ∧ a < 4294967296 ∨ m = 8 ∧ a < 65536 ∨ m = 4 ∧ a < 256 ∨ m = 2 ∧ a < 16 ∨ m = 1 ∧ a < 4 ∨ m = 0 ∧ a < 2)
theorem bits_hit (a0 n a : Int) (m : Nat) (c : Int) (hc : c = 2 ^ m) (h : BitsInv a0 m n a) (h0 : blen a0 ≤ 64) (hm : 0 < m) (hb : ¬ a / c = 0) (hi : InU a) : BitsInv a0 (m / 2) (n + m) (a / c) := by
  obtain ⟨h1, h2, h3, h4, h5⟩ := h
  subst hc
  have hp : (0 : Int) < 2 ^ m := Int.pow_pos (by omega)
  have hq : 0 ≤ a / 2 ^ m := Int.ediv_nonneg h1 (by omega)
  have e := blen_half a m (by omega)
  have hi2 : InU (a / 2 ^ m) := ⟨hq, by have := Int.ediv_le_self (2 ^ m) h1; have := hi.2; omega⟩
  have e2 := (blen_le _ hi2).1
  refine ⟨hq, by omega, by omega, by omega, ?_⟩
  rcases h5 with ⟨rfl, h⟩ | ⟨rfl, h⟩ | ⟨rfl, h⟩ | ⟨rfl, h⟩ | ⟨rfl, h⟩ | ⟨rfl, h⟩ | ⟨rfl, h⟩ <;> simp at hb ⊢ <;> omega
theorem bits_miss (a0 n a : Int) (m : Nat) (c : Int) (hc : c = 2 ^ m) (h : BitsInv a0 m n a) (hm : 0 < m) (hb : a / c = 0) : BitsInv a0 (m / 2) n a := by
  obtain ⟨h1, h2, h3, h4, h5⟩ := h
  subst hc
  refine ⟨h1, h2, h3, h4, ?_⟩
  rcases h5 with ⟨rfl, h⟩ | ⟨rfl, h⟩ | ⟨rfl, h⟩ | ⟨rfl, h⟩ | ⟨rfl, h⟩ | ⟨rfl, h⟩ | ⟨rfl, h⟩ <;> simp at hb ⊢ <;> omega
theorem bits_round (a0 n a : Int) (m : Nat) (c : Int) (hc : c = 2 ^ m) (h : BitsInv a0 m n a) (h0 : blen a0 ≤ 64) (hm : 0 < m) (hi : InU a) :
    ((a / c != 0) = true ∧ BitsInv a0 (m / 2) (n + m) (a / c) ∧ n + m ≤ 64) ∨ ((a / c != 0) = false ∧ BitsInv a0 (m / 2) n a) := by
  by_cases hb : a / c = 0
  · exact .inr ⟨by simp [hb], bits_miss a0 n a m c hc h hm hb⟩
  · have := bits_hit a0 n a m c hc h h0 hm hb hi
    exact .inl ⟨by simp [hb], this, this.2.2.1⟩
theorem bits_in (a0 n a : Int) (m : Nat) (h : BitsInv a0 m n a) : InU a ∧ 0 ≤ n ∧ n ≤ 64 := by
  obtain ⟨h1, h2, h3, h4, h5⟩ := h
  exact ⟨⟨h1, by omega⟩, h2, h3⟩

set_option maxHeartbeats 2000000 in
theorem bits_any (a : Int) (w : World) (ha : InU a) :
    Calls Try.prog 16 #[.int .u64 a] w fun e w' => e = .returned (.int .i64 (blen a)) ∧ ∃ q, w' = w.drewN q := by
  have h64 := hidd (blen_le a ha)
  go_enter Try.func16, Try.ntmps16
  go_wp2
  go_loopw [0, 3, 4] (fun x n s wr => ∃ (m : Nat) (y z : Int) (q : Nat), m ≤ 32 ∧ s = .int .i64 m ∧ x = .int .u64 y ∧ n = .int .i64 z ∧ BitsInv a m z y ∧ wr = w.drewN q) (fun _ _ s _ => (intOf s).toNat)
  case atStart => exact ⟨32, a, 0, 0, by omega, rfl, rfl, rfl, ⟨ha.1, by omega, by omega, by omega, .inl ⟨rfl, ha.2⟩⟩, rfl⟩
  case round =>
    obtain ⟨m, y, z, q, hm32, rfl, rfl, rfl, hi, rfl⟩ := hrel
    obtain ⟨hy, hz1, hz2⟩ := bits_in _ _ _ _ hi
    have hcases : m = 32 ∨ m = 16 ∨ m = 8 ∨ m = 4 ∨ m = 2 ∨ m = 1 ∨ m = 0 := by obtain ⟨_, _, _, _, h5⟩ := hi; omega
    clear ha
    rcases hcases with rfl | rfl | rfl | rfl | rfl | rfl | rfl
    case inr.inr.inr.inr.inr.inr =>
      have h2 : 0 ≤ y ∧ y ≤ 1 := by obtain ⟨_, _, _, _, h5⟩ := hi; omega
      have he : Hid (z + y = blen a) := by obtain ⟨_, _, _, h4, _⟩ := hi; rw [blen_small y h2] at h4; exact h4
      clear hi hy
      go_wp2
      go_ret
      exact ⟨ret_int he.out, _, rfl⟩
    all_goals
      rcases bits_round a z y _ _ rfl hi h64.out.2 (by omega) hy with ⟨hb, hn, hs⟩ | ⟨hb, hn⟩
      all_goals
        simp only [Int.reducePow] at hb hn
        have hn' := hidd hn
        clear hn hi hy
        go_wp2
        try go_quiet (fail)
        try go_wp2
        go_roundw
        case rel => exact ⟨_, _, _, _, by decide, rfl, rfl, rfl, hn'.out, rfl⟩
        case measure => simp [intOf]
end Go.Proofs.Ytamkbbpjbmoipaa
