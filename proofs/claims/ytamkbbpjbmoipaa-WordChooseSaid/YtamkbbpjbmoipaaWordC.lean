/- The law WordChoose: chosen bits; the number of bits. -/
import Derived.Test.YtamkbbpjbmoipaaWordV
import Derived.Test.YtamkbbpjbmoipaaWordL
namespace Go.Proofs.Ytamkbbpjbmoipaa
open Go.RowKit Wd

theorem pick_eq (n m : Int) (hm : 1 ≤ m) : (n.tmod m < 0 → n.tmod m + m = n % m) ∧ (¬ n.tmod m < 0 → n.tmod m = n % m) := by
  have h := Int.tmod_eq_emod (a := n) (b := m)
  have h1 := Int.emod_nonneg n (show m ≠ 0 by omega)
  have h2 := Int.emod_lt_of_pos n (show 0 < m by omega)
  rw [h]
  split <;> omega
set_option maxHeartbeats 400000 in
theorem pick_any (n m : Int) (w : World) (hm : 1 ≤ m) (hm2 : m ≤ 9223372036854775807) :
    Calls Try.prog 13 #[.int .i64 n, .int .i64 m] w fun e w' => (∃ i : Nat, i < m ∧ (i : Int) = n % m ∧ e = .returned (.int .i64 i)) ∧ w = w' := by
  have h1 := Int.emod_nonneg n (show m ≠ 0 by omega)
  have h2 := Int.emod_lt_of_pos n (show 0 < m by omega)
  obtain ⟨i, hi⟩ : ∃ i : Nat, (i : Int) = n % m := ⟨(n % m).toNat, by omega⟩
  have hi' := hidd hi
  have he := pick_eq n m hm
  rw [← hi] at he h1 h2
  have hf : Hid (∃ j : Nat, j < m ∧ (j : Int) = n % m ∧ Ending.returned (.int .i64 i) = .returned (.int .i64 j)) := ⟨i, h2, hi, rfl⟩
  clear hi
  by_cases h : n.tmod m < 0
  · have he2 := he.1 h
    have hw : IntKind.i64.wrap (n.tmod m + m) = (i : Int) := by rw [he2]; exact IntWalk.i64_in _ (by omega)
    have hw1 : IntKind.i64.wrap (n.tmod m) = n.tmod m := IntWalk.i64_in _ (by omega)
    have g1 : (m == 0) = false := by simp; omega
    clear he he2
    go_enter Try.func13, Try.ntmps13
    go_wp2
    go_ret
    exact ⟨hf.out, rfl⟩
  · have he2 := he.2 h
    have g1 : (m == 0) = false := by simp; omega
    clear he
    go_enter Try.func13, Try.ntmps13
    go_wp2
    go_ret
    exact ⟨hf.out, rfl⟩

theorem bits_n (a : Int) (n : Int) (w : World) (ha : InU a) (hn : Hid (blen a = n)) :
    Calls Try.prog 16 #[.int .u64 a] w fun e w' => e = .returned (.int .i64 n) ∧ ∃ q, w' = w.drewN q := by
  rw [← hn.out]; exact bits_any a w ha

attribute [local irreducible] bits IntKind.wrap chooseI maskOf blen
set_option maxHeartbeats 4000000 in
set_option maxRecDepth 100000 in
theorem choose_way (m a b : Int) (is : Bool) (bit : Int) (j : Nat) (w : World) (ha : InU a)
    (H1 : ∀ i : Nat, Hid (((bits BinOp.and IntKind.u64 (m / 2 ^ i) 1 == 1) = true ∧ (bits BinOp.and IntKind.u64 (chooseI m a b / 2 ^ i) 1 == bits BinOp.and IntKind.u64 (a / 2 ^ i) 1) = true) ∨
      ((bits BinOp.and IntKind.u64 (m / 2 ^ i) 1 == 1) = false ∧ (bits BinOp.and IntKind.u64 (chooseI m a b / 2 ^ i) 1 == bits BinOp.and IntKind.u64 (b / 2 ^ i) 1) = true)))
    (H2 : (bits BinOp.xor IntKind.u64 (chooseI m a b) (chooseI m b a) == bits BinOp.xor IntKind.u64 a b) = true)
    (H3 : (is = true ∧ (chooseI (maskOf true) a b == a) = true) ∨ (is = false ∧ (chooseI (maskOf false) a b == b) = true))
    (hn : Hid (blen a = j)) (n64 : j ≤ 64)
    (H4 : (((j : Int) == 64) = true ∧ ((j : Int) == 0) = false ∧ ∃ k : Nat, k < 64 ∧ (j : Int) - 1 = k ∧ (a / 2 ^ k == 1) = true) ∨ (((j : Int) == 64) = false ∧ j < 64 ∧ (a / 2 ^ j == 0) = true ∧ ((j : Int) == 0) = true) ∨
      (((j : Int) == 64) = false ∧ j < 64 ∧ (a / 2 ^ j == 0) = true ∧ ((j : Int) == 0) = false ∧ ∃ k : Nat, k < 64 ∧ (j : Int) - 1 = k ∧ (a / 2 ^ k == 1) = true)) :
    Calls Try.prog 5 #[.int .u64 m, .int .u64 a, .int .u64 b, .bool is, .int .i64 bit] w fun e w' => e = .returned (.bool true) ∧ ∃ q, w' = w.drewN q := by
  have hz := hidd H4
  clear H4
  rcases H3 with ⟨rfl, g3⟩ | ⟨rfl, g3⟩
  all_goals
    go_enter Try.func5, Try.ntmps5
    simp only [List.append_eq, List.cons_append, List.nil_append]
    go_wp2_with fail
    go_at_call 9
    refine (lives_any _).mono ?_
    rintro e w' ⟨rfl, rfl⟩
    go_wp2_with fail
    go_at_call 13
    refine (pick_any _ _ _ (by omega) (by omega)).mono ?_
    rintro e w' ⟨⟨i, hi, hi2, rfl⟩, rfl⟩
    clear hi2
    have H1 := (H1 i).out
    rcases H1 with ⟨g1, g2⟩ | ⟨g1, g2⟩
    all_goals
      go_wp2_with fail
      go_at_call 14
      refine (choose_any _ _ _ _).mono ?_; rintro e w' ⟨rfl, rfl⟩
      go_wp2_with fail
      go_at_call 15
      refine (mask_any _ _).mono ?_; rintro e w' ⟨rfl, rfl⟩
      go_wp2_with fail
      go_at_call 14
      refine (choose_any _ _ _ _).mono ?_; rintro e w' ⟨rfl, rfl⟩
      go_wp2_with fail
      go_at_call 16
      refine (bits_n a j _ ha hn).mono ?_; rintro e w' ⟨rfl, q, rfl⟩
      go_wp2_with fail
      go_at_call 14
      refine (choose_any _ _ _ _).mono ?_; rintro e w' ⟨rfl, rfl⟩
      rcases hz.out with ⟨c1, c2, k, c3, c4, c5⟩ | ⟨c1, c2, c3, c4⟩ | ⟨c1, c2, c3, c4, k, c5, c6, c7⟩
      all_goals
        clear hz ha hn
        go_wp2
        go_ret
        exact ⟨rfl, _, rfl⟩

theorem wordChoose_walk (m a b : Int) (is : Bool) (bit : Int) (w : World) (hm : InU m) (ha : InU a) (hb : InU b) :
    Calls Try.prog 5 #[.int .u64 m, .int .u64 a, .int .u64 b, .bool is, .int .i64 bit] w fun e w' => e = .returned (.bool true) ∧ ∃ q, w' = w.drewN q := by
  obtain ⟨j, hj, h64, h1, h2⟩ := blen_nat a ha
  refine choose_way m a b is bit j w ha (fun i => choose_bit m a b i hm ha hb) (choose_xor m a b hm ha hb) ?_ hj h64 ?_
  · have h := choose_mask is a b ha hb
    cases is
    · exact .inr ⟨rfl, by rw [h]; simp⟩
    · exact .inl ⟨rfl, by rw [h]; simp⟩
  · by_cases c : j = 64
    · exact .inl ⟨by simp [c], by simp [c], 63, by omega, by omega, h2 63 (by omega)⟩
    · by_cases c0 : j = 0
      · exact .inr (.inl ⟨by simp; omega, by omega, h1 (by omega), by simp [c0]⟩)
      · exact .inr (.inr ⟨by simp; omega, by omega, h1 (by omega), by simp; omega, j - 1, by omega, by omega, h2 (j - 1) (by omega)⟩)
end Go.Proofs.Ytamkbbpjbmoipaa
