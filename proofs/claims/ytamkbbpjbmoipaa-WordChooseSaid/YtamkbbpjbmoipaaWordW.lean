/- The walks of package word (chapter 1): what each of its functions computes, said by the plain functions of the text on words. Conditions: the arguments are words of 64 bits. -/
import Derived.Test.YtamkbbpjbmoipaaRows
import Derived.Test.YtamkbbpjbmoipaaWord
import Derived.WalkKit
import Derived.WalkSpells
import Derived.WalkLawsBesides
namespace Go.Proofs.Ytamkbbpjbmoipaa
open Go.RowKit Wd
theorem hidd {p : Prop} (h : p) : Hid p := h

theorem ret_ub {x x' : Int} {y y' : Bool} (h1 : x = x') (h2 : y = y') : Ending.returned (.tuple #[.int .u64 x, .bool y]) = .returned (.tuple #[.int .u64 x', .bool y']) := by rw [h1, h2]
theorem ret_uu {x x' y y' : Int} (h1 : x = x') (h2 : y = y') : Ending.returned (.tuple #[.int .u64 x, .int .u64 y]) = .returned (.tuple #[.int .u64 x', .int .u64 y']) := by rw [h1, h2]
theorem ret_uub {x x' y y' : Int} {z z' : Bool} (h1 : x = x') (h2 : y = y') (h3 : z = z') : Ending.returned (.tuple #[.int .u64 x, .int .u64 y, .bool z]) = .returned (.tuple #[.int .u64 x', .int .u64 y', .bool z']) := by rw [h1, h2, h3]
theorem ret_int {k : IntKind} {a b : Int} (h : a = b) : Ending.returned (.int k a) = .returned (.int k b) := by rw [h]

set_option maxHeartbeats 400000 in
theorem add_any (a b : Int) (c : Bool) (w : World) (ha : InU a) (hb : InU b) :
    Calls Try.prog 12 #[.int .u64 a, .int .u64 b, .bool c] w fun e w' => e = .returned (.tuple #[.int .u64 (addS a b c), .bool (addC a b c)]) ∧ w = w' := by
  have H1 := hidd (add_f a b ha hb)
  have H2 := hidd (add_t a b ha hb)
  cases c
  · go_enter Try.func12, Try.ntmps12
    go_wp2
    go_ret2
    exact ⟨ret_ub H1.out.1 H1.out.2, rfl⟩
  · by_cases hlt : IntKind.u64.wrap (a + b) < a
    all_goals
      go_enter Try.func12, Try.ntmps12
      go_wp2
      go_ret2
      refine ⟨ret_ub H2.out.1 ?_, rfl⟩
      rw [← H2.out.2]
      simp [hlt] <;> omega

set_option maxHeartbeats 400000 in
theorem sub_any (a b : Int) (c : Bool) (w : World) (ha : InU a) (hb : InU b) :
    Calls Try.prog 17 #[.int .u64 a, .int .u64 b, .bool c] w fun e w' => e = .returned (.tuple #[.int .u64 (subS a b c), .bool (subC a b c)]) ∧ w = w' := by
  have H1 := hidd (sub_f a b ha hb)
  have H2 := hidd (sub_t a b ha hb)
  cases c
  · go_enter Try.func17, Try.ntmps17
    go_wp2
    go_ret2
    exact ⟨ret_ub H1.out.1 H1.out.2, rfl⟩
  · by_cases hlt : a < b
    all_goals
      go_enter Try.func17, Try.ntmps17
      go_wp2
      go_ret2
      refine ⟨ret_ub H2.out.1 ?_, rfl⟩
      rw [← H2.out.2]
      simp [hlt] <;> omega

set_option maxHeartbeats 400000 in
theorem mul_any (a b : Int) (w : World) (ha : InU a) (hb : InU b) :
    Calls Try.prog 11 #[.int .u64 a, .int .u64 b] w fun e w' => e = .returned (.tuple #[.int .u64 (hi a b), .int .u64 (lo a b)]) ∧ w = w' := by
  have H := hidd (mul_hi a b ha hb)
  have Ha := hidd (and_half a ha)
  have Hb := hidd (and_half b hb)
  go_enter Try.func11, Try.ntmps11
  go_wp2
  go_ret2
  refine ⟨ret_uu ?_ ?_, rfl⟩
  · rw [← H.out, Ha.out, Hb.out, and_half (IntKind.u64.wrap _) (by rw [wu]; exact inU_mod _)]
  · rw [wu]; rfl

set_option maxHeartbeats 400000 in
theorem mask_any (c : Bool) (w : World) :
    Calls Try.prog 15 #[.bool c] w fun e w' => e = .returned (.int .u64 (maskOf c)) ∧ w = w' := by
  cases c
  all_goals
    go_enter Try.func15, Try.ntmps15
    go_wp2
    go_ret
    exact ⟨rfl, rfl⟩

set_option maxHeartbeats 400000 in
theorem choose_any (m a b : Int) (w : World) :
    Calls Try.prog 14 #[.int .u64 m, .int .u64 a, .int .u64 b] w fun e w' => e = .returned (.int .u64 (chooseI m a b)) ∧ w = w' := by
  go_enter Try.func14, Try.ntmps14
  go_wp2
  go_ret
  exact ⟨rfl, rfl⟩

set_option maxHeartbeats 400000 in
theorem inverse_any (n : Int) (w : World) (hn : InU n) :
    Calls Try.prog 10 #[.int .u64 n] w fun e w' => e = .returned (.tuple #[.int .u64 (inv n), .bool (odd n)]) ∧ w = w' := by
  have H := hidd (and_one n hn)
  by_cases ho : n % 2 = 1
  · have h1 : (bits BinOp.and IntKind.u64 n 1 == 0) = false := by rw [H.out, ho]; rfl
    have e1 : Hid (inv n = newt n 5 ∧ odd n = true) := hidd ⟨by simp [inv, ho], by simp [odd, ho]⟩
    clear ho
    go_enter Try.func10, Try.ntmps10
    go_wp2
    go_loop [4, 9] (fun x i => ∃ k : Nat, k ≤ 5 ∧ i = .int .i64 k ∧ x = .int .u64 (newt n k)) (fun _ i => (5 - intOf i).toNat)
    case atStart => exact ⟨0, by omega, rfl, rfl⟩
    case round =>
      obtain ⟨k, hk, rfl, rfl⟩ := hrel
      by_cases hlt : k < 5
      · go_wp2
        go_round
        case rel => exact ⟨k + 1, by omega, by go_num, rfl⟩
        case measure => simp [intOf]; omega
      · go_wp2
        go_ret2
        have : k = 5 := by omega
        subst this
        exact ⟨ret_ub e1.out.1.symm e1.out.2.symm, rfl⟩
  · have h1 : (bits BinOp.and IntKind.u64 n 1 == 0) = true := by rw [H.out]; simp; omega
    have e1 : Hid (inv n = 0 ∧ odd n = false) := hidd ⟨by simp [inv, ho], by simp [odd, ho]⟩
    clear ho
    go_enter Try.func10, Try.ntmps10
    go_wp2
    go_ret2
    exact ⟨ret_ub e1.out.1.symm e1.out.2.symm, rfl⟩
end Go.Proofs.Ytamkbbpjbmoipaa
