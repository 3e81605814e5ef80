/- The walks of the references of chapter 1: each computes the very function that package word computes. -/
import Derived.Test.YtamkbbpjbmoipaaWordV
import Derived.Test.YtamkbbpjbmoipaaWordD
namespace Go.Proofs.Ytamkbbpjbmoipaa
open Go.RowKit Wd

set_option maxHeartbeats 400000 in
theorem radd_any (a b : Int) (c : Bool) (w : World) (ha : InU a) (hb : InU b) :
    Calls Try.prog 19 #[.int .u64 a, .int .u64 b, .bool c] w fun e w' => e = .returned (.tuple #[.int .u64 (addS a b c), .bool (addC a b c)]) ∧ w = w' := by
  have H1 := hidd (add_f a b ha hb)
  have H2 := hidd (add_t a b ha hb)
  cases c
  · go_enter Try.func19, Try.ntmps19
    go_wp2
    go_ret2
    exact ⟨ret_ub H1.out.1 H1.out.2, rfl⟩
  · by_cases hlt : IntKind.u64.wrap (a + b) < a
    all_goals
      go_enter Try.func19, Try.ntmps19
      go_wp2
      go_ret2
      refine ⟨ret_ub H2.out.1 ?_, rfl⟩
      rw [← H2.out.2]
      simp [hlt] <;> omega

set_option maxHeartbeats 400000 in
theorem rsub_any (a b : Int) (c : Bool) (w : World) (ha : InU a) (hb : InU b) :
    Calls Try.prog 20 #[.int .u64 a, .int .u64 b, .bool c] w fun e w' => e = .returned (.tuple #[.int .u64 (subS a b c), .bool (subC a b c)]) ∧ w = w' := by
  have H1 := hidd (sub_f a b ha hb)
  have H2 := hidd (sub_t a b ha hb)
  cases c
  · go_enter Try.func20, Try.ntmps20
    go_wp2
    go_ret2
    exact ⟨ret_ub H1.out.1 H1.out.2, rfl⟩
  · by_cases hlt : a < b
    all_goals
      go_enter Try.func20, Try.ntmps20
      go_wp2
      go_ret2
      refine ⟨ret_ub H2.out.1 ?_, rfl⟩
      rw [← H2.out.2]
      simp [hlt] <;> omega

set_option maxHeartbeats 400000 in
theorem rmul_any (a b : Int) (w : World) (ha : InU a) (hb : InU b) :
    Calls Try.prog 21 #[.int .u64 a, .int .u64 b] w fun e w' => e = .returned (.tuple #[.int .u64 (hi a b), .int .u64 (lo a b)]) ∧ w = w' := by
  have H := hidd (mul_hi a b ha hb)
  have Ha := hidd (and_half a ha)
  have Hb := hidd (and_half b hb)
  go_enter Try.func21, Try.ntmps21
  go_wp2
  go_ret2
  refine ⟨ret_uu ?_ ?_, rfl⟩
  · rw [← H.out, Ha.out, Hb.out, and_half (IntKind.u64.wrap _) (by rw [wu]; exact inU_mod _)]
  · rw [wu]; rfl

set_option maxHeartbeats 400000 in
theorem rmask_any (c : Bool) (w : World) :
    Calls Try.prog 24 #[.bool c] w fun e w' => e = .returned (.int .u64 (maskOf c)) ∧ w = w' := by
  cases c
  all_goals
    go_enter Try.func24, Try.ntmps24
    go_wp2
    go_ret
    exact ⟨rfl, rfl⟩

set_option maxHeartbeats 400000 in
theorem rchoose_any (m a b : Int) (w : World) (hm : InU m) (ha : InU a) (hb : InU b) :
    Calls Try.prog 25 #[.int .u64 m, .int .u64 a, .int .u64 b] w fun e w' => e = .returned (.int .u64 (chooseI m a b)) ∧ w = w' := by
  have H := hidd (choose_ref m a b hm ha hb)
  go_enter Try.func25, Try.ntmps25
  go_wp2
  go_ret
  exact ⟨ret_int H.out, rfl⟩

set_option maxHeartbeats 1000000 in
theorem rinverse_any (n : Int) (w : World) (hn : InU n) :
    Calls Try.prog 23 #[.int .u64 n] w fun e w' => e = .returned (.tuple #[.int .u64 (inv n), .bool (odd n)]) ∧ w = w' := by
  have e7 : n.tmod 2 = n % 2 := Int.tmod_eq_emod_of_nonneg hn.1
  by_cases ho : n % 2 = 1
  · have h1 : (n.tmod 2 == 0) = false := by rw [e7, ho]; rfl
    have e1 : Hid (odd n = true) := hidd (by simp [odd, ho])
    have ho' := hidd ho
    clear ho e7
    go_enter Try.func23, Try.ntmps23
    go_wp2
    go_loop [4, 5] (fun x i => ∃ (k : Nat) (y : Int), k ≤ 64 ∧ i = .int .i64 k ∧ x = .int .u64 y ∧ RInv n k y) (fun _ i => (64 - intOf i).toNat)
    case atStart => exact ⟨0, 0, by omega, rfl, rfl, rinv_start n⟩
    case round =>
      obtain ⟨k, y, hk, rfl, rfl, hi⟩ := hrel
      by_cases hlt : k < 64
      · rcases rinv_step n y k hlt ho'.out hi with ⟨c, h2⟩ | ⟨c, h2⟩
        all_goals
          have h2' := hidd h2
          clear h2 hi
          go_wp2
          go_round
          case rel => exact ⟨k + 1, _, by omega, by go_num, rfl, by first | exact h2'.out | (rw [wrap_pow k hlt]; exact h2'.out)⟩
          case measure => simp [intOf]; omega
      · have : k = 64 := by omega
        subst this
        have h2 := hidd (rinv_end n y hn hi)
        clear hi
        go_wp2
        go_ret2
        exact ⟨ret_ub h2.out e1.out.symm, rfl⟩
  · have h1 : (n.tmod 2 == 0) = true := by rw [e7]; simp; omega
    have e1 : Hid (inv n = 0 ∧ odd n = false) := hidd ⟨by simp [inv, ho], by simp [odd, ho]⟩
    clear ho e7
    go_enter Try.func23, Try.ntmps23
    go_wp2
    go_ret2
    exact ⟨ret_ub e1.out.1.symm e1.out.2.symm, rfl⟩

set_option maxHeartbeats 1000000 in
theorem rbits_any (a : Int) (w : World) (ha : InU a) :
    Calls Try.prog 26 #[.int .u64 a] w fun e w' => e = .returned (.int .i64 (blen a)) ∧ w = w' := by
  have h64 := hidd (blen_le a ha)
  go_enter Try.func26, Try.ntmps26
  go_wp2
  go_loop [0, 3] (fun x n => ∃ (y z : Int), x = .int .u64 y ∧ n = .int .i64 z ∧ InU y ∧ 0 ≤ z ∧ z ≤ 64 ∧ Hid (z + blen y = blen a)) (fun x _ => (intOf x).toNat)
  case atStart => exact ⟨a, 0, rfl, rfl, ha, by omega, by omega, by show 0 + blen a = blen a; omega⟩
  case round =>
    obtain ⟨y, z, rfl, rfl, hy, hz, hz2, hi⟩ := hrel
    by_cases hlt : 0 < y
    · have h2 : InU (y / 2) := by unfold InU at *; omega
      have h3 : Hid (z + 1 + blen (y / 2) = blen a) := by have := hi.out; rw [blen_step y hlt] at this; show _ = _; omega
      have h4 : z + 1 ≤ 64 := by have := h3.out; have := (blen_le _ h2).1; have := h64.out.2; omega
      have h5 : y / 2 < y := by omega
      have h6 : 0 ≤ y := by omega
      clear ha hy hi
      go_wp2
      go_round
      case rel => exact ⟨y / 2, z + 1, rfl, rfl, h2, by omega, h4, h3⟩
      case measure => simp [intOf]; omega
    · have h0 : y = 0 := by have := hy.1; omega
      subst h0
      clear ha hy
      go_wp2
      go_ret
      refine ⟨ret_int ?_, rfl⟩
      have := hi.out
      rw [show blen 0 = 0 by decide] at this
      omega

set_option maxHeartbeats 2000000 in
theorem rdiv_any (h l b : Int) (w : World) (hh : InU h) (hl : InU l) (hb : InU b) :
    Calls Try.prog 22 #[.int .u64 h, .int .u64 l, .int .u64 b] w fun e w' => e = .returned (.tuple #[.int .u64 (quo h l b), .int .u64 (rem h l b), .bool (decide (h < b))]) ∧ w = w' := by
  by_cases hlt : h < b
  · have hs := hidd (rdiv_start h l b hh hl hlt)
    have hq : Hid (quo h l b = (h * 18446744073709551616 + l) / b ∧ rem h l b = (h * 18446744073709551616 + l) % b) := by constructor <;> simp [quo, rem, hlt]
    have hd : decide (h < b) = true := by simpa using hlt
    go_enter Try.func22, Try.ntmps22
    go_wp2
    go_loop [9, 10, 11] (fun q r i => ∃ (j : Nat) (y z : Int), j ≤ 64 ∧ i = .int .i64 ((j : Int) - 1) ∧ q = .int .u64 y ∧ r = .int .u64 z ∧ RDiv (h * 18446744073709551616 + l) b j z y) (fun _ _ i => (1 + intOf i).toNat)
    case atStart => exact ⟨64, 0, h, by omega, rfl, rfl, rfl, hs.out⟩
    case round =>
      obtain ⟨j, y, z, hj, rfl, rfl, rfl, hi⟩ := hrel
      cases j with
      | zero =>
        have he := hidd (rdiv_end _ _ _ _ hi)
        clear hi
        go_wp2
        go_ret3
        exact ⟨ret_uub (by rw [hq.out.1, he.out.1]) (by rw [hq.out.2, he.out.2]) rfl, rfl⟩
      | succ m =>
        have hm : m < 64 := by omega
        have hbz : 0 ≤ z ∧ z < 18446744073709551616 := by obtain ⟨t, _, _, _, h4, h5, _⟩ := hi; have := hb.2; omega
        have hst := rdiv_step h l b m z y hm hl hb hi
        dsimp only at hst
        have em : ((m + 1 : Nat) : Int) - 1 = (m : Int) := by omega
        rw [em]
        clear hi em
        by_cases c1 : 9223372036854775808 ≤ z
        · rw [if_pos (Or.inl c1)] at hst
          have hst' := hidd hst
          clear hst
          have c1' : (z / 9223372036854775808 == 1) = true := by simp; omega
          clear hbz c1
          go_wp2
          go_round
          case rel => exact ⟨m, _, _, by omega, rfl, rfl, rfl, by first | exact hst'.out | (rw [wrap_pow m hm]; exact hst'.out)⟩
          case measure => simp [intOf]; omega
        · have c1' : (z / 9223372036854775808 == 1) = false := by simp; omega
          by_cases c2 : b ≤ bits BinOp.or IntKind.u64 (IntKind.u64.wrap (z * 2)) (bits BinOp.and IntKind.u64 (l / 2 ^ m) 1)
          · rw [if_pos (Or.inr c2)] at hst
            have hst' := hidd hst
            clear hst hbz c1
            go_wp2
            go_round
            case rel => exact ⟨m, _, _, by omega, rfl, rfl, rfl, by first | exact hst'.out | (rw [wrap_pow m hm]; exact hst'.out)⟩
            case measure => simp [intOf]; omega
          · rw [if_neg (by omega)] at hst
            have hst' := hidd hst
            clear hst hbz c1
            go_wp2
            go_round
            case rel => exact ⟨m, _, _, by omega, rfl, rfl, rfl, by first | exact hst'.out | (rw [wrap_pow m hm]; exact hst'.out)⟩
            case measure => simp [intOf]; omega
  · have hq : Hid (quo h l b = 0 ∧ rem h l b = 0) := by constructor <;> simp [quo, rem, hlt]
    have hd : decide (h < b) = false := by simpa using hlt
    go_enter Try.func22, Try.ntmps22
    go_wp2
    go_ret3
    exact ⟨ret_uub hq.out.1.symm hq.out.2.symm rfl, rfl⟩
end Go.Proofs.Ytamkbbpjbmoipaa
