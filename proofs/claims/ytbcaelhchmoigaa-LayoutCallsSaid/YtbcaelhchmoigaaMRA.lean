import Derived.Test.YtbcaelhchmoigaaME
set_option maxHeartbeats 40000000
set_option maxRecDepth 100000
set_option linter.unusedVariables false
set_option linter.unusedSimpArgs false
namespace Go.Proofs.Ytbcaelhchmoigaa
open Go.RowKit Calm
theorem rhigh_any (r : Int) (w : World) (h : -1 ≤ r ∧ r ≤ 15) : Calls Try.prog 80 #[.int .i64 r] w fun e w' => e = .returned (.int .u8 (hiR r)) ∧ w = w' := by
  have h1 : r < 0 ∨ (0 ≤ r ∧ r < 8) ∨ 8 ≤ r := by omega
  rcases h1 with h1 | h1 | h1
  · have hf : Hid (0 = hiR r) := by show _ = _; unfold hiR; rw [if_neg (by omega)]
    go_enter Try.func80, Try.ntmps80
    go_wp2
    go_ret
    exact ⟨ret_int hf.out, rfl⟩
  · have hf : Hid (r / 8 = hiR r) := by show _ = _; unfold hiR; rw [if_neg (by omega)]; omega
    go_enter Try.func80, Try.ntmps80
    go_wp2
    go_ret
    exact ⟨ret_int hf.out, rfl⟩
  · have hf : Hid (r / 8 = hiR r) := by show _ = _; unfold hiR; rw [if_pos (by omega)]; omega
    go_enter Try.func80, Try.ntmps80
    go_wp2
    go_ret
    exact ⟨ret_int hf.out, rfl⟩
theorem rex_u8 (a b c : Int) : rexI a b c = 72 + 4 * hiR a + 2 * hiR b + hiR c := rfl
theorem both_u8 (a b : Int) : bothI a b = 192 + 8 * loR a + loR b := rfl
theorem lo_u8 (a : Int) : loR a = a % 8 := rfl
attribute [local irreducible] hiR
theorem rrex_any (a b c : Int) (w : World) (h1 : -1 ≤ a ∧ a ≤ 15) (h2 : -1 ≤ b ∧ b ≤ 15) (h3 : -1 ≤ c ∧ c ≤ 15) : Calls Try.prog 76 #[.int .i64 a, .int .i64 b, .int .i64 c] w fun e w' => e = .returned (.int .u8 (rexI a b c)) ∧ w = w' := by
  have k1 := hiR_b a; have k2 := hiR_b b; have k3 := hiR_b c
  go_enter Try.func76, Try.ntmps76
  go_wp2_with (go_at_call 80; refine (rhigh_any _ _ (by assumption)).mono ?_; rintro e w' ⟨rfl, rfl⟩)
  go_ret
  exact ⟨ret_int (by rw [rex_u8]), rfl⟩
theorem rboth_any (a b : Int) (w : World) (h1 : 0 ≤ a ∧ a ≤ 15) (h2 : 0 ≤ b ∧ b ≤ 15) : Calls Try.prog 79 #[.int .i64 a, .int .i64 b] w fun e w' => e = .returned (.int .u8 (bothI a b)) ∧ w = w' := by
  go_enter Try.func79, Try.ntmps79
  go_wp2
  go_ret
  exact ⟨ret_int (by rw [both_u8, lo_u8, lo_u8]), rfl⟩
theorem rcode_1 (w : World) : Calls Try.prog 81 #[.int .i64 1] w fun e w' => e = .returned (.int .u8 137) ∧ w = w' := by
  go_enter Try.func81, Try.ntmps81
  go_wp2
  go_ret
  exact ⟨rfl, rfl⟩
theorem rcode_6 (w : World) : Calls Try.prog 81 #[.int .i64 6] w fun e w' => e = .returned (.int .u8 1) ∧ w = w' := by
  go_enter Try.func81, Try.ntmps81
  go_wp2
  go_ret
  exact ⟨rfl, rfl⟩
theorem rcode_7 (w : World) : Calls Try.prog 81 #[.int .i64 7] w fun e w' => e = .returned (.int .u8 17) ∧ w = w' := by
  go_enter Try.func81, Try.ntmps81
  go_wp2
  go_ret
  exact ⟨rfl, rfl⟩
theorem rcode_8 (w : World) : Calls Try.prog 81 #[.int .i64 8] w fun e w' => e = .returned (.int .u8 41) ∧ w = w' := by
  go_enter Try.func81, Try.ntmps81
  go_wp2
  go_ret
  exact ⟨rfl, rfl⟩
theorem rcode_9 (w : World) : Calls Try.prog 81 #[.int .i64 9] w fun e w' => e = .returned (.int .u8 25) ∧ w = w' := by
  go_enter Try.func81, Try.ntmps81
  go_wp2
  go_ret
  exact ⟨rfl, rfl⟩
theorem rcode_10 (w : World) : Calls Try.prog 81 #[.int .i64 10] w fun e w' => e = .returned (.int .u8 33) ∧ w = w' := by
  go_enter Try.func81, Try.ntmps81
  go_wp2
  go_ret
  exact ⟨rfl, rfl⟩
theorem rcode_11 (w : World) : Calls Try.prog 81 #[.int .i64 11] w fun e w' => e = .returned (.int .u8 9) ∧ w = w' := by
  go_enter Try.func81, Try.ntmps81
  go_wp2
  go_ret
  exact ⟨rfl, rfl⟩
theorem rcode_12 (w : World) : Calls Try.prog 81 #[.int .i64 12] w fun e w' => e = .returned (.int .u8 49) ∧ w = w' := by
  go_enter Try.func81, Try.ntmps81
  go_wp2
  go_ret
  exact ⟨rfl, rfl⟩
theorem rcode_13 (w : World) : Calls Try.prog 81 #[.int .i64 13] w fun e w' => e = .returned (.int .u8 57) ∧ w = w' := by
  go_enter Try.func81, Try.ntmps81
  go_wp2
  go_ret
  exact ⟨rfl, rfl⟩
theorem rcode_14 (w : World) : Calls Try.prog 81 #[.int .i64 14] w fun e w' => e = .returned (.int .u8 133) ∧ w = w' := by
  go_enter Try.func81, Try.ntmps81
  go_wp2
  go_ret
  exact ⟨rfl, rfl⟩
theorem rlittle_0 (n : Int) (w : World) (_hn : -9223372036854775808 ≤ n ∧ n ≤ 9223372036854775807) :
    Calls Try.prog 77 #[.int .i64 n, .int .i64 0] w fun e w' => RetB w.heap.size (littleL n 0) e w' ∧ Below w.heap.size w w' := by
  go_enter Try.func77, Try.ntmps77
  go_wp2
  go_loopw [5, 6] (fun v i wr => ((i = .int .i64 0 ∧ IsB wr w.heap.size v (littleL n 0))) ∧ Below w.heap.size w wr) (fun _ i _ => 0 - (intOf i).toNat)
  case atStart => exact ⟨⟨rfl, IsB.nil _ _⟩, Below.refl _ _⟩
  case round =>
    obtain ⟨hrel, hb⟩ := hrel
    have hsz := hb.size
    rcases hrel with ⟨rfl, hB⟩
    · go_wp2
      go_ret
      exact ⟨⟨_, rfl, hB⟩, hb⟩
theorem rlittle_1 (n : Int) (w : World) (_hn : -9223372036854775808 ≤ n ∧ n ≤ 9223372036854775807) :
    Calls Try.prog 77 #[.int .i64 n, .int .i64 1] w fun e w' => RetB w.heap.size (littleL n 1) e w' ∧ Below w.heap.size w w' := by
  go_enter Try.func77, Try.ntmps77
  go_wp2
  go_loopw [5, 6] (fun v i wr => ((i = .int .i64 0 ∧ IsB wr w.heap.size v (littleL n 0)) ∨ (i = .int .i64 1 ∧ IsB wr w.heap.size v (littleL n 1))) ∧ Below w.heap.size w wr) (fun _ i _ => 1 - (intOf i).toNat)
  case atStart => exact ⟨.inl ⟨rfl, IsB.nil _ _⟩, Below.refl _ _⟩
  case round =>
    obtain ⟨hrel, hb⟩ := hrel
    have hsz := hb.size
    rcases hrel with ⟨rfl, hB⟩ | ⟨rfl, hB⟩
    · go_wp2_with (at_builtin; refine wpList_appB (xs := littleL n 0) (bs := [n / 1 % 256]) (B := w.heap.size) (B' := 0) rfl _ _ rfl rfl rfl (IsB.alloc hB _) (IsB.lit wr 0 [n / 1 % 256] 1 rfl _ (by simp) (Nat.zero_le _) (by simp)) (le_alloc hsz _) (by rw [littleL_length]; simp) ?_; intro v' w' hB' hb'; clear hB)
      go_roundw
      case rel => exact ⟨.inr (⟨rfl, by have e : littleL n 1 = littleL n 0 ++ [n / 1 % 256] := (by simp only [littleL, List.nil_append]; try (simp; try omega)); rw [e]; exact hB'⟩), (bal hb _).trans hb'⟩
      case measure => simp [intOf]
    · go_wp2
      go_ret
      exact ⟨⟨_, rfl, hB⟩, hb⟩
theorem rlittle_4 (n : Int) (w : World) (_hn : -9223372036854775808 ≤ n ∧ n ≤ 9223372036854775807) :
    Calls Try.prog 77 #[.int .i64 n, .int .i64 4] w fun e w' => RetB w.heap.size (littleL n 4) e w' ∧ Below w.heap.size w w' := by
  go_enter Try.func77, Try.ntmps77
  go_wp2
  go_loopw [5, 6] (fun v i wr => ((i = .int .i64 0 ∧ IsB wr w.heap.size v (littleL n 0)) ∨ (i = .int .i64 1 ∧ IsB wr w.heap.size v (littleL n 1)) ∨ (i = .int .i64 2 ∧ IsB wr w.heap.size v (littleL n 2)) ∨ (i = .int .i64 3 ∧ IsB wr w.heap.size v (littleL n 3)) ∨ (i = .int .i64 4 ∧ IsB wr w.heap.size v (littleL n 4))) ∧ Below w.heap.size w wr) (fun _ i _ => 4 - (intOf i).toNat)
  case atStart => exact ⟨.inl ⟨rfl, IsB.nil _ _⟩, Below.refl _ _⟩
  case round =>
    obtain ⟨hrel, hb⟩ := hrel
    have hsz := hb.size
    rcases hrel with ⟨rfl, hB⟩ | ⟨rfl, hB⟩ | ⟨rfl, hB⟩ | ⟨rfl, hB⟩ | ⟨rfl, hB⟩
    · go_wp2_with (at_builtin; refine wpList_appB (xs := littleL n 0) (bs := [n / 1 % 256]) (B := w.heap.size) (B' := 0) rfl _ _ rfl rfl rfl (IsB.alloc hB _) (IsB.lit wr 0 [n / 1 % 256] 1 rfl _ (by simp) (Nat.zero_le _) (by simp)) (le_alloc hsz _) (by rw [littleL_length]; simp) ?_; intro v' w' hB' hb'; clear hB)
      go_roundw
      case rel => exact ⟨.inr (.inl ⟨rfl, by have e : littleL n 1 = littleL n 0 ++ [n / 1 % 256] := (by simp only [littleL, List.nil_append]; try (simp; try omega)); rw [e]; exact hB'⟩), (bal hb _).trans hb'⟩
      case measure => simp [intOf]
    · go_wp2_with (at_builtin; refine wpList_appB (xs := littleL n 1) (bs := [n / 256 % 256]) (B := w.heap.size) (B' := 0) rfl _ _ rfl rfl rfl (IsB.alloc hB _) (IsB.lit wr 0 [n / 256 % 256] 1 rfl _ (by simp) (Nat.zero_le _) (by simp)) (le_alloc hsz _) (by rw [littleL_length]; simp) ?_; intro v' w' hB' hb'; clear hB)
      go_roundw
      case rel => exact ⟨.inr (.inr (.inl ⟨rfl, by have e : littleL n 2 = littleL n 1 ++ [n / 256 % 256] := (by simp only [littleL, List.cons_append, List.nil_append]; try (simp; try omega)); rw [e]; exact hB'⟩)), (bal hb _).trans hb'⟩
      case measure => simp [intOf]
    · go_wp2_with (at_builtin; refine wpList_appB (xs := littleL n 2) (bs := [n / 65536 % 256]) (B := w.heap.size) (B' := 0) rfl _ _ rfl rfl rfl (IsB.alloc hB _) (IsB.lit wr 0 [n / 65536 % 256] 1 rfl _ (by simp) (Nat.zero_le _) (by simp)) (le_alloc hsz _) (by rw [littleL_length]; simp) ?_; intro v' w' hB' hb'; clear hB)
      go_roundw
      case rel => exact ⟨.inr (.inr (.inr (.inl ⟨rfl, by have e : littleL n 3 = littleL n 2 ++ [n / 65536 % 256] := (by simp only [littleL, List.cons_append, List.nil_append]; try (simp; try omega)); rw [e]; exact hB'⟩))), (bal hb _).trans hb'⟩
      case measure => simp [intOf]
    · go_wp2_with (at_builtin; refine wpList_appB (xs := littleL n 3) (bs := [n / 16777216 % 256]) (B := w.heap.size) (B' := 0) rfl _ _ rfl rfl rfl (IsB.alloc hB _) (IsB.lit wr 0 [n / 16777216 % 256] 1 rfl _ (by simp) (Nat.zero_le _) (by simp)) (le_alloc hsz _) (by rw [littleL_length]; simp) ?_; intro v' w' hB' hb'; clear hB)
      go_roundw
      case rel => exact ⟨.inr (.inr (.inr (.inr (⟨rfl, by have e : littleL n 4 = littleL n 3 ++ [n / 16777216 % 256] := (by simp only [littleL, List.cons_append, List.nil_append]; try (simp; try omega)); rw [e]; exact hB'⟩)))), (bal hb _).trans hb'⟩
      case measure => simp [intOf]
    · go_wp2
      go_ret
      exact ⟨⟨_, rfl, hB⟩, hb⟩
theorem rlittle_8 (n : Int) (w : World) (_hn : -9223372036854775808 ≤ n ∧ n ≤ 9223372036854775807) :
    Calls Try.prog 77 #[.int .i64 n, .int .i64 8] w fun e w' => RetB w.heap.size (littleL n 8) e w' ∧ Below w.heap.size w w' := by
  go_enter Try.func77, Try.ntmps77
  go_wp2
  go_loopw [5, 6] (fun v i wr => ((i = .int .i64 0 ∧ IsB wr w.heap.size v (littleL n 0)) ∨ (i = .int .i64 1 ∧ IsB wr w.heap.size v (littleL n 1)) ∨ (i = .int .i64 2 ∧ IsB wr w.heap.size v (littleL n 2)) ∨ (i = .int .i64 3 ∧ IsB wr w.heap.size v (littleL n 3)) ∨ (i = .int .i64 4 ∧ IsB wr w.heap.size v (littleL n 4)) ∨ (i = .int .i64 5 ∧ IsB wr w.heap.size v (littleL n 5)) ∨ (i = .int .i64 6 ∧ IsB wr w.heap.size v (littleL n 6)) ∨ (i = .int .i64 7 ∧ IsB wr w.heap.size v (littleL n 7)) ∨ (i = .int .i64 8 ∧ IsB wr w.heap.size v (littleL n 8))) ∧ Below w.heap.size w wr) (fun _ i _ => 8 - (intOf i).toNat)
  case atStart => exact ⟨.inl ⟨rfl, IsB.nil _ _⟩, Below.refl _ _⟩
  case round =>
    obtain ⟨hrel, hb⟩ := hrel
    have hsz := hb.size
    rcases hrel with ⟨rfl, hB⟩ | ⟨rfl, hB⟩ | ⟨rfl, hB⟩ | ⟨rfl, hB⟩ | ⟨rfl, hB⟩ | ⟨rfl, hB⟩ | ⟨rfl, hB⟩ | ⟨rfl, hB⟩ | ⟨rfl, hB⟩
    · go_wp2_with (at_builtin; refine wpList_appB (xs := littleL n 0) (bs := [n / 1 % 256]) (B := w.heap.size) (B' := 0) rfl _ _ rfl rfl rfl (IsB.alloc hB _) (IsB.lit wr 0 [n / 1 % 256] 1 rfl _ (by simp) (Nat.zero_le _) (by simp)) (le_alloc hsz _) (by rw [littleL_length]; simp) ?_; intro v' w' hB' hb'; clear hB)
      go_roundw
      case rel => exact ⟨.inr (.inl ⟨rfl, by have e : littleL n 1 = littleL n 0 ++ [n / 1 % 256] := (by simp only [littleL, List.nil_append]; try (simp; try omega)); rw [e]; exact hB'⟩), (bal hb _).trans hb'⟩
      case measure => simp [intOf]
    · go_wp2_with (at_builtin; refine wpList_appB (xs := littleL n 1) (bs := [n / 256 % 256]) (B := w.heap.size) (B' := 0) rfl _ _ rfl rfl rfl (IsB.alloc hB _) (IsB.lit wr 0 [n / 256 % 256] 1 rfl _ (by simp) (Nat.zero_le _) (by simp)) (le_alloc hsz _) (by rw [littleL_length]; simp) ?_; intro v' w' hB' hb'; clear hB)
      go_roundw
      case rel => exact ⟨.inr (.inr (.inl ⟨rfl, by have e : littleL n 2 = littleL n 1 ++ [n / 256 % 256] := (by simp only [littleL, List.cons_append, List.nil_append]; try (simp; try omega)); rw [e]; exact hB'⟩)), (bal hb _).trans hb'⟩
      case measure => simp [intOf]
    · go_wp2_with (at_builtin; refine wpList_appB (xs := littleL n 2) (bs := [n / 65536 % 256]) (B := w.heap.size) (B' := 0) rfl _ _ rfl rfl rfl (IsB.alloc hB _) (IsB.lit wr 0 [n / 65536 % 256] 1 rfl _ (by simp) (Nat.zero_le _) (by simp)) (le_alloc hsz _) (by rw [littleL_length]; simp) ?_; intro v' w' hB' hb'; clear hB)
      go_roundw
      case rel => exact ⟨.inr (.inr (.inr (.inl ⟨rfl, by have e : littleL n 3 = littleL n 2 ++ [n / 65536 % 256] := (by simp only [littleL, List.cons_append, List.nil_append]; try (simp; try omega)); rw [e]; exact hB'⟩))), (bal hb _).trans hb'⟩
      case measure => simp [intOf]
    · go_wp2_with (at_builtin; refine wpList_appB (xs := littleL n 3) (bs := [n / 16777216 % 256]) (B := w.heap.size) (B' := 0) rfl _ _ rfl rfl rfl (IsB.alloc hB _) (IsB.lit wr 0 [n / 16777216 % 256] 1 rfl _ (by simp) (Nat.zero_le _) (by simp)) (le_alloc hsz _) (by rw [littleL_length]; simp) ?_; intro v' w' hB' hb'; clear hB)
      go_roundw
      case rel => exact ⟨.inr (.inr (.inr (.inr (.inl ⟨rfl, by have e : littleL n 4 = littleL n 3 ++ [n / 16777216 % 256] := (by simp only [littleL, List.cons_append, List.nil_append]; try (simp; try omega)); rw [e]; exact hB'⟩)))), (bal hb _).trans hb'⟩
      case measure => simp [intOf]
    · go_wp2_with (at_builtin; refine wpList_appB (xs := littleL n 4) (bs := [n / 4294967296 % 256]) (B := w.heap.size) (B' := 0) rfl _ _ rfl rfl rfl (IsB.alloc hB _) (IsB.lit wr 0 [n / 4294967296 % 256] 1 rfl _ (by simp) (Nat.zero_le _) (by simp)) (le_alloc hsz _) (by rw [littleL_length]; simp) ?_; intro v' w' hB' hb'; clear hB)
      go_roundw
      case rel => exact ⟨.inr (.inr (.inr (.inr (.inr (.inl ⟨rfl, by have e : littleL n 5 = littleL n 4 ++ [n / 4294967296 % 256] := (by simp only [littleL, List.cons_append, List.nil_append]; try (simp; try omega)); rw [e]; exact hB'⟩))))), (bal hb _).trans hb'⟩
      case measure => simp [intOf]
    · go_wp2_with (at_builtin; refine wpList_appB (xs := littleL n 5) (bs := [n / 1099511627776 % 256]) (B := w.heap.size) (B' := 0) rfl _ _ rfl rfl rfl (IsB.alloc hB _) (IsB.lit wr 0 [n / 1099511627776 % 256] 1 rfl _ (by simp) (Nat.zero_le _) (by simp)) (le_alloc hsz _) (by rw [littleL_length]; simp) ?_; intro v' w' hB' hb'; clear hB)
      go_roundw
      case rel => exact ⟨.inr (.inr (.inr (.inr (.inr (.inr (.inl ⟨rfl, by have e : littleL n 6 = littleL n 5 ++ [n / 1099511627776 % 256] := (by simp only [littleL, List.cons_append, List.nil_append]; try (simp; try omega)); rw [e]; exact hB'⟩)))))), (bal hb _).trans hb'⟩
      case measure => simp [intOf]
    · go_wp2_with (at_builtin; refine wpList_appB (xs := littleL n 6) (bs := [n / 281474976710656 % 256]) (B := w.heap.size) (B' := 0) rfl _ _ rfl rfl rfl (IsB.alloc hB _) (IsB.lit wr 0 [n / 281474976710656 % 256] 1 rfl _ (by simp) (Nat.zero_le _) (by simp)) (le_alloc hsz _) (by rw [littleL_length]; simp) ?_; intro v' w' hB' hb'; clear hB)
      go_roundw
      case rel => exact ⟨.inr (.inr (.inr (.inr (.inr (.inr (.inr (.inl ⟨rfl, by have e : littleL n 7 = littleL n 6 ++ [n / 281474976710656 % 256] := (by simp only [littleL, List.cons_append, List.nil_append]; try (simp; try omega)); rw [e]; exact hB'⟩))))))), (bal hb _).trans hb'⟩
      case measure => simp [intOf]
    · go_wp2_with (at_builtin; refine wpList_appB (xs := littleL n 7) (bs := [n / 72057594037927936 % 256]) (B := w.heap.size) (B' := 0) rfl _ _ rfl rfl rfl (IsB.alloc hB _) (IsB.lit wr 0 [n / 72057594037927936 % 256] 1 rfl _ (by simp) (Nat.zero_le _) (by simp)) (le_alloc hsz _) (by rw [littleL_length]; simp) ?_; intro v' w' hB' hb'; clear hB)
      go_roundw
      case rel => exact ⟨.inr (.inr (.inr (.inr (.inr (.inr (.inr (.inr (⟨rfl, by have e : littleL n 8 = littleL n 7 ++ [n / 72057594037927936 % 256] := (by simp only [littleL, List.cons_append, List.nil_append]; try (simp; try omega)); rw [e]; exact hB'⟩)))))))), (bal hb _).trans hb'⟩
      case measure => simp [intOf]
    · go_wp2
      go_ret
      exact ⟨⟨_, rfl, hB⟩, hb⟩
end Go.Proofs.Ytbcaelhchmoigaa
namespace Go.Proofs.Ytbcaelhchmoigaa
open Go.RowKit Calm
theorem IsB.cast {w : World} {B : Nat} {v : Value} {xs ys : List Int} (h : IsB w B v xs) (e : xs = ys) : IsB w B v ys := e ▸ h
theorem rp_one (w : World) (mb mi ms md x : Int) :
    IsB ((w.alloc (.cells #[.int .i64 mb, .int .i64 mi, .int .i64 ms, .int .i64 md] 33)).alloc (.cells #[.int .u8 x] 5)) (w.heap.size + 1) (.slice (some ⟨w.heap.size + 1, 0, none⟩) 1 1) [x] ∧
    ∀ w2, Below (w.heap.size + 1) ((w.alloc (.cells #[.int .i64 mb, .int .i64 mi, .int .i64 ms, .int .i64 md] 33)).alloc (.cells #[.int .u8 x] 5)) w2 → Below w.heap.size w w2 ∧ w.heap.size + 1 ≤ w2.heap.size := by
  have h1 := IsB.lit (w.alloc (.cells #[.int .i64 mb, .int .i64 mi, .int .i64 ms, .int .i64 md] 33)) (w.heap.size + 1) [x] 1 rfl #[.int .u8 x] rfl (by simp) (by simp)
  rw [World.size_alloc] at h1
  refine ⟨h1, fun w2 hb => ⟨(bal (bal (Below.refl _ _) _) _).trans (hb.mono (by omega)), by have := hb.size; simp at this; omega⟩⟩
theorem rp_two (w : World) (mb mi ms md x y : Int) :
    IsB (((w.alloc (.cells #[.int .i64 mb, .int .i64 mi, .int .i64 ms, .int .i64 md] 33)).alloc (.cells #[.int .u8 x] 5)).drew.alloc (.cells #[.int .u8 y] 5)) (w.heap.size + 1) (.slice (some ⟨w.heap.size + 1, 0, none⟩) 1 1) [x] ∧
    IsB (((w.alloc (.cells #[.int .i64 mb, .int .i64 mi, .int .i64 ms, .int .i64 md] 33)).alloc (.cells #[.int .u8 x] 5)).drew.alloc (.cells #[.int .u8 y] 5)) (w.heap.size + 1) (.slice (some ⟨w.heap.size + 1 + 1, 0, none⟩) 1 1) [y] ∧
    (w.heap.size + 1 ≤ (((w.alloc (.cells #[.int .i64 mb, .int .i64 mi, .int .i64 ms, .int .i64 md] 33)).alloc (.cells #[.int .u8 x] 5)).drew.alloc (.cells #[.int .u8 y] 5)).heap.size) ∧
    ∀ w2, Below (w.heap.size + 1) (((w.alloc (.cells #[.int .i64 mb, .int .i64 mi, .int .i64 ms, .int .i64 md] 33)).alloc (.cells #[.int .u8 x] 5)).drew.alloc (.cells #[.int .u8 y] 5)) w2 →
      Below w.heap.size w w2 ∧ w2.cell? { block := w.heap.size, off := 3 } = some (.int .i64 md) ∧ w.heap.size + 1 ≤ w2.heap.size := by
  have h1 := (rp_one w mb mi ms md x).1
  have h1' : IsB ((w.alloc (.cells #[.int .i64 mb, .int .i64 mi, .int .i64 ms, .int .i64 md] 33)).alloc (.cells #[.int .u8 x] 5)).drew (w.heap.size + 1) (.slice (some ⟨w.heap.size + 1, 0, none⟩) 1 1) [x] := h1
  have hz : ((w.alloc (.cells #[.int .i64 mb, .int .i64 mi, .int .i64 ms, .int .i64 md] 33)).alloc (.cells #[.int .u8 x] 5)).drew.heap.size = w.heap.size + 1 + 1 := by show ((w.alloc (.cells #[.int .i64 mb, .int .i64 mi, .int .i64 ms, .int .i64 md] 33)).alloc (.cells #[.int .u8 x] 5)).heap.size = _; simp
  have h2 := IsB.lit ((w.alloc (.cells #[.int .i64 mb, .int .i64 mi, .int .i64 ms, .int .i64 md] 33)).alloc (.cells #[.int .u8 x] 5)).drew (w.heap.size + 1) [y] 1 rfl #[.int .u8 y] rfl (by rw [hz]; omega) (by simp)
  rw [hz] at h2
  refine ⟨h1'.alloc _, h2, by rw [World.size_alloc, hz]; omega, fun w2 hb => ⟨?_, ?_, ?_⟩⟩
  · have hb0 : Below w.heap.size w (((w.alloc (.cells #[.int .i64 mb, .int .i64 mi, .int .i64 ms, .int .i64 md] 33)).alloc (.cells #[.int .u8 x] 5)).drew.alloc (.cells #[.int .u8 y] 5)) := bal (below_dr (bal (bal (Below.refl _ _) _) _)) _
    exact hb0.trans (hb.mono (by omega))
  · refine cellk hb (by simp) ?_
    refine cella _ ?_
    show ((w.alloc (.cells #[.int .i64 mb, .int .i64 mi, .int .i64 ms, .int .i64 md] 33)).alloc (.cells #[.int .u8 x] 5)).cell? _ = _
    refine cella _ ?_
    rw [World.cell?_alloc_new]; rfl
  · have := hb.size
    rw [World.size_alloc, hz] at this
    omega
end Go.Proofs.Ytbcaelhchmoigaa
namespace Go.Proofs.Ytbcaelhchmoigaa
open Go.RowKit Calm
attribute [local irreducible] hiR littleL scaleI
end Go.Proofs.Ytbcaelhchmoigaa
namespace Go.Proofs.Ytbcaelhchmoigaa
open Go.RowKit Calm
attribute [local irreducible] hiR littleL scaleI
end Go.Proofs.Ytbcaelhchmoigaa
namespace Go.Proofs.Ytbcaelhchmoigaa
open Go.RowKit Calm
attribute [local irreducible] hiR littleL scaleI
end Go.Proofs.Ytbcaelhchmoigaa
namespace Go.Proofs.Ytbcaelhchmoigaa
open Go.RowKit Calm
theorem V_or (mb md : Int) (P : Prop)
    (c0 : (md == 0) = true → (mb % 8 != 5) = true → modI mb md = 0 → lenI mb md = 0 → P)
    (c1a : (md == 0) = true → (mb % 8 != 5) = false → decide (-128 ≤ md) = true → decide (md < 128) = true → modI mb md = 1 → lenI mb md = 1 → P)
    (c1b : (md == 0) = false → decide (-128 ≤ md) = true → decide (md < 128) = true → modI mb md = 1 → lenI mb md = 1 → P)
    (c2a : (md == 0) = false → decide (-128 ≤ md) = true → decide (md < 128) = false → modI mb md = 2 → lenI mb md = 4 → P)
    (c2b : (md == 0) = false → decide (-128 ≤ md) = false → modI mb md = 2 → lenI mb md = 4 → P)
    : P := by
  have hl : loR mb = mb % 8 := rfl
  by_cases h1 : md = 0
  · have e0 : (md == 0) = true := by simp [h1]
    by_cases h5 : mb % 8 = 5
    · have hb : byteB md = true := by rw [h1]; decide
      have hn : ¬ (md = 0 ∧ loR mb ≠ 5) := by rw [hl]; omega
      exact c1a e0 (by simp [h5]) (by simp; omega) (by simp; omega) (by unfold modI; rw [if_neg hn, hb]; rfl) (by unfold lenI; rw [if_neg hn, hb]; rfl)
    · have hn : md = 0 ∧ loR mb ≠ 5 := ⟨h1, by rw [hl]; exact h5⟩
      exact c0 e0 (by simp [h5]) (by unfold modI; rw [if_pos hn]) (by unfold lenI; rw [if_pos hn])
  · have e0 : (md == 0) = false := by simp [h1]
    have hn : ¬ (md = 0 ∧ loR mb ≠ 5) := fun h => h1 h.1
    by_cases h2 : -128 ≤ md
    · by_cases h3 : md < 128
      · have hb : byteB md = true := by unfold byteB; simp; omega
        exact c1b e0 (by simp [h2]) (by simp [h3]) (by unfold modI; rw [if_neg hn, hb]; rfl) (by unfold lenI; rw [if_neg hn, hb]; rfl)
      · have hb : byteB md = false := by unfold byteB; simp; omega
        exact c2a e0 (by simp [h2]) (by simp; omega) (by unfold modI; rw [if_neg hn, hb]; rfl) (by unfold lenI; rw [if_neg hn, hb]; rfl)
    · have hb : byteB md = false := by unfold byteB; simp; omega
      exact c2b e0 (by simp; omega) (by unfold modI; rw [if_neg hn, hb]; rfl) (by unfold lenI; rw [if_neg hn, hb]; rfl)
end Go.Proofs.Ytbcaelhchmoigaa
namespace Go.Proofs.Ytbcaelhchmoigaa
open Go.RowKit Calm
theorem sc_1 : scaleI 1 = 0 := rfl
theorem sc_2 : scaleI 2 = 1 := rfl
theorem sc_4 : scaleI 4 = 2 := rfl
theorem sc_8 : scaleI 8 = 3 := rfl
attribute [local irreducible] hiR littleL scaleI
theorem rl_any (n k : Int) (m : Nat) (w : World) (hn : -9223372036854775808 ≤ n ∧ n ≤ 9223372036854775807) (h : (k = 0 ∧ m = 0) ∨ (k = 1 ∧ m = 1) ∨ (k = 4 ∧ m = 4)) :
    Calls Try.prog 77 #[.int .i64 n, .int .i64 k] w fun e w' => RetB w.heap.size (littleL n m) e w' ∧ Below w.heap.size w w' := by
  rcases h with ⟨rfl, rfl⟩ | ⟨rfl, rfl⟩ | ⟨rfl, rfl⟩
  · exact rlittle_0 n w hn
  · exact rlittle_1 n w hn
  · exact rlittle_4 n w hn
theorem rq_none (mid mb mi ms md : Int) (w : World) (hm : 0 ≤ mid ∧ mid ≤ 15) (hb : 0 ≤ mb ∧ mb ≤ 15) (hd : -2147483648 ≤ md ∧ md ≤ 2147483647) (h4 : (mi != -1) = false) (h5 : (mb % 8 == 4) = false) :
    Calls Try.prog 78 #[.int .i64 mid, .agg #[.int .i64 mb, .int .i64 mi, .int .i64 ms, .int .i64 md]] w fun e w' => RetB w.heap.size (rmI (modI mb md) mid (loR mb) :: littleL md (lenI mb md)) e w' ∧ Below w.heap.size w w' := by
  refine V_or mb md _ ?_ ?_ ?_ ?_ ?_
  all_goals
    intros
    rename_i e1 e2
    rw [e1, e2]
    go_enter Try.func78, Try.ntmps78
    go_wp2_with fail
    go_at_call 77
    refine (rl_any md _ _ _ (by omega) (by first | exact .inl ⟨rfl, rfl⟩ | exact .inr (.inl ⟨rfl, rfl⟩) | exact .inr (.inr ⟨rfl, rfl⟩))).mono ?_
    rintro e w3 ⟨⟨y, rfl, hy⟩, hb3⟩
    have h1 := (rp_one w mb mi ms md _).1.later hb3
    obtain ⟨hbw, hz3⟩ := (rp_one w mb mi ms md _).2 w3 (hb3.mono (by simp only [World.size_alloc]; omega))
    have hy1 := hy.mono (show w.heap.size + 1 ≤ _ by simp only [World.size_alloc]; omega)
    clear hb3 hy
    go_wp2_with (at_builtin; refine wpList_appB (B := w.heap.size + 1) rfl _ _ rfl rfl rfl h1 hy1 hz3 (by rw [littleL_length]; simp) ?_; intro v' w' hB' hb')
    go_ret
    exact ⟨⟨_, rfl, (hB'.mono (by omega)).cast (by simp only [List.cons_append, List.nil_append, List.cons.injEq, and_true, rmI, loR]; try omega)⟩, hbw.trans (hb'.mono (by omega))⟩
theorem rq_sib (mid mb mi ms md q : Int) (w : World) (hm : 0 ≤ mid ∧ mid ≤ 15) (hb : 0 ≤ mb ∧ mb ≤ 15) (hd : -2147483648 ≤ md ∧ md ≤ 2147483647)
    (h : (q = 4 ∧ scaleI ms = 0 ∧ (mi != -1) = false ∧ (mb % 8 == 4) = true ∧ (ms == 2) = false ∧ (ms == 4) = false ∧ (ms == 8) = false) ∨
      ((0 ≤ mi ∧ mi ≤ 15) ∧ q = loR mi ∧ (mi != -1) = true ∧ ((scaleI ms = 0 ∧ (ms == 2) = false ∧ (ms == 4) = false ∧ (ms == 8) = false) ∨ (scaleI ms = 1 ∧ (ms == 2) = true) ∨ (scaleI ms = 2 ∧ (ms == 2) = false ∧ (ms == 4) = true) ∨ (scaleI ms = 3 ∧ (ms == 2) = false ∧ (ms == 4) = false ∧ (ms == 8) = true)))) :
    Calls Try.prog 78 #[.int .i64 mid, .agg #[.int .i64 mb, .int .i64 mi, .int .i64 ms, .int .i64 md]] w fun e w' => RetB w.heap.size (rmI (modI mb md) mid 4 :: sibI ms q mb :: littleL md (lenI mb md)) e w' ∧ Below w.heap.size w w' := by
  rcases h with ⟨rfl, hsc, g0, g1, g2, g3, g4⟩ | ⟨hmi, rfl, g0, ⟨hsc, g1, g2, g3⟩ | ⟨hsc, g1⟩ | ⟨hsc, g1, g2⟩ | ⟨hsc, g1, g2, g3⟩⟩
  all_goals
    have hsc' := hidd hsc
    clear hsc
    refine V_or mb md _ ?_ ?_ ?_ ?_ ?_
  all_goals
    intros
    rename_i e1 e2
    rw [e1, e2]
    go_enter Try.func78, Try.ntmps78
    go_wp2_with fail
    go_region
    go_wp2_with (first | (at_builtin; refine wpList_appB (B := w.heap.size + 1) rfl _ _ rfl rfl rfl h2 hy1 hz3 (by rw [littleL_length]; simp) ?_; intro v' w' hB' hb') | (at_builtin; refine wpList_appB (B := w.heap.size + 1) rfl _ _ rfl rfl rfl (rp_two w mb mi ms md _ _).1 (rp_two w mb mi ms md _ _).2.1 (rp_two w mb mi ms md _ _).2.2.1 (by simp) ?_; intro v2 w2 hv2 hb2; obtain ⟨hbw, hc, hz2⟩ := (rp_two w mb mi ms md _ _).2.2.2 w2 hb2; clear hb2) | (go_at_call 77; refine (rl_any md _ _ _ (by omega) (by first | exact .inl ⟨rfl, rfl⟩ | exact .inr (.inl ⟨rfl, rfl⟩) | exact .inr (.inr ⟨rfl, rfl⟩))).mono ?_; rintro e w3 ⟨⟨y, rfl, hy⟩, hb3⟩; have h2 := hv2.later hb3; have hy1 := hy.mono hz2; have hbw3 := hbw.trans (hb3.mono (by omega)); have hz3 := Nat.le_trans hz2 hb3.size; clear hb3 hy hbw))
    go_ret
    exact ⟨⟨_, rfl, (hB'.mono (by omega)).cast (by simp only [List.cons_append, List.nil_append, List.cons.injEq, and_true, rmI, sibI, loR]; rw [hsc'.out]; omega)⟩, hbw3.trans (hb'.mono (by omega))⟩
theorem rplace6_any (mid mb mi ms md : Int) (w : World) (hm : Reg mid) (hp : plc mb mi ms md = true) :
    Calls Try.prog 78 #[.int .i64 mid, .agg #[.int .i64 mb, .int .i64 mi, .int .i64 ms, .int .i64 md]] w fun e w' => RetB w.heap.size (placeL mid mb mi ms md) e w' ∧ Below w.heap.size w w' := by
  obtain ⟨hb, hd, hi⟩ := plc_open hp
  have hl : loR mb = mb % 8 := rfl
  rcases hi with ⟨hn, hs⟩ | ⟨hn, hr, _, hs⟩
  · have g0 : (mi != -1) = false := by simp [hn]
    by_cases h4 : mb % 8 = 4
    · have e : placeL mid mb mi ms md = rmI (modI mb md) mid 4 :: sibI ms 4 mb :: littleL md (lenI mb md) := by unfold placeL; rw [if_neg (by simp [hn]), if_pos (by rw [hl]; exact h4)]
      rw [e]
      exact rq_sib mid mb mi ms md 4 w hm hb hd (.inl ⟨rfl, by rw [hs]; exact sc_1, g0, by simp [h4], by simp [hs], by simp [hs], by simp [hs]⟩)
    · have e : placeL mid mb mi ms md = rmI (modI mb md) mid (loR mb) :: littleL md (lenI mb md) := by unfold placeL; rw [if_neg (by simp [hn]), if_neg (by rw [hl]; exact h4)]
      rw [e]
      exact rq_none mid mb mi ms md w hm hb hd g0 (by simp [h4])
  · have g0 : (mi != -1) = true := by simp [hn]
    have e : placeL mid mb mi ms md = rmI (modI mb md) mid 4 :: sibI ms (loR mi) mb :: littleL md (lenI mb md) := by unfold placeL; rw [if_pos hn]
    rw [e]
    refine rq_sib mid mb mi ms md _ w hm hb hd (.inr ⟨hr, rfl, g0, ?_⟩)
    rcases hs with h | h | h | h
    · exact .inl ⟨by rw [h]; exact sc_1, by simp [h], by simp [h], by simp [h]⟩
    · exact .inr (.inl ⟨by rw [h]; exact sc_2, by simp [h]⟩)
    · exact .inr (.inr (.inl ⟨by rw [h]; exact sc_4, by simp [h], by simp [h]⟩))
    · exact .inr (.inr (.inr ⟨by rw [h]; exact sc_8, by simp [h], by simp [h], by simp [h]⟩))
end Go.Proofs.Ytbcaelhchmoigaa
