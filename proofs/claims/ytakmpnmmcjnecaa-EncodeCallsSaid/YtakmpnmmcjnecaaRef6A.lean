/- keysmithref06 (the document's answer for layer 6): high, rex, both, little, code. Conditions: registers are registers. -/
import Derived.Test.YtakmpnmmcjnecaaEPlain
namespace Go.Proofs.Ytakmpnmmcjnecaa
open Go.RowKit Calm

theorem rhigh_any (r : Int) (w : World) (h : -1 ≤ r ∧ r ≤ 15) : Calls Try.prog 65 #[.int .i64 r] w fun e w' => e = .returned (.int .u8 (hiR r)) ∧ w = w' := by
  have h1 : r < 0 ∨ (0 ≤ r ∧ r < 8) ∨ 8 ≤ r := by omega
  rcases h1 with h1 | h1 | h1
  · have hf : Hid (0 = hiR r) := by show _ = _; unfold hiR; rw [if_neg (by omega)]
    go_enter Try.func65, Try.ntmps65
    go_wp2
    go_ret
    exact ⟨ret_int hf.out, rfl⟩
  · have hf : Hid (r / 8 = hiR r) := by show _ = _; unfold hiR; rw [if_neg (by omega)]; omega
    go_enter Try.func65, Try.ntmps65
    go_wp2
    go_ret
    exact ⟨ret_int hf.out, rfl⟩
  · have hf : Hid (r / 8 = hiR r) := by show _ = _; unfold hiR; rw [if_pos (by omega)]; omega
    go_enter Try.func65, Try.ntmps65
    go_wp2
    go_ret
    exact ⟨ret_int hf.out, rfl⟩
theorem rex_u8 (a b c : Int) : rexI a b c = 72 + 4 * hiR a + 2 * hiR b + hiR c := rfl
theorem both_u8 (a b : Int) : bothI a b = 192 + 8 * loR a + loR b := rfl
theorem lo_u8 (a : Int) : loR a = a % 8 := rfl
attribute [local irreducible] hiR
theorem rrex_any (a b c : Int) (w : World) (h1 : -1 ≤ a ∧ a ≤ 15) (h2 : -1 ≤ b ∧ b ≤ 15) (h3 : -1 ≤ c ∧ c ≤ 15) : Calls Try.prog 61 #[.int .i64 a, .int .i64 b, .int .i64 c] w fun e w' => e = .returned (.int .u8 (rexI a b c)) ∧ w = w' := by
  have k1 := hiR_b a; have k2 := hiR_b b; have k3 := hiR_b c
  go_enter Try.func61, Try.ntmps61
  go_wp2_with (go_at_call 65; refine (rhigh_any _ _ (by assumption)).mono ?_; rintro e w' ⟨rfl, rfl⟩)
  go_ret
  exact ⟨ret_int (by rw [rex_u8]), rfl⟩
theorem rboth_any (a b : Int) (w : World) (h1 : 0 ≤ a ∧ a ≤ 15) (h2 : 0 ≤ b ∧ b ≤ 15) : Calls Try.prog 64 #[.int .i64 a, .int .i64 b] w fun e w' => e = .returned (.int .u8 (bothI a b)) ∧ w = w' := by
  go_enter Try.func64, Try.ntmps64
  go_wp2
  go_ret
  exact ⟨ret_int (by rw [both_u8, lo_u8, lo_u8]), rfl⟩
theorem rcode_1 (w : World) : Calls Try.prog 66 #[.int .i64 1] w fun e w' => e = .returned (.int .u8 137) ∧ w = w' := by
  go_enter Try.func66, Try.ntmps66
  go_wp2
  go_ret
  exact ⟨rfl, rfl⟩
theorem rcode_6 (w : World) : Calls Try.prog 66 #[.int .i64 6] w fun e w' => e = .returned (.int .u8 1) ∧ w = w' := by
  go_enter Try.func66, Try.ntmps66
  go_wp2
  go_ret
  exact ⟨rfl, rfl⟩
theorem rcode_7 (w : World) : Calls Try.prog 66 #[.int .i64 7] w fun e w' => e = .returned (.int .u8 17) ∧ w = w' := by
  go_enter Try.func66, Try.ntmps66
  go_wp2
  go_ret
  exact ⟨rfl, rfl⟩
theorem rcode_8 (w : World) : Calls Try.prog 66 #[.int .i64 8] w fun e w' => e = .returned (.int .u8 41) ∧ w = w' := by
  go_enter Try.func66, Try.ntmps66
  go_wp2
  go_ret
  exact ⟨rfl, rfl⟩
theorem rcode_9 (w : World) : Calls Try.prog 66 #[.int .i64 9] w fun e w' => e = .returned (.int .u8 25) ∧ w = w' := by
  go_enter Try.func66, Try.ntmps66
  go_wp2
  go_ret
  exact ⟨rfl, rfl⟩
theorem rcode_10 (w : World) : Calls Try.prog 66 #[.int .i64 10] w fun e w' => e = .returned (.int .u8 33) ∧ w = w' := by
  go_enter Try.func66, Try.ntmps66
  go_wp2
  go_ret
  exact ⟨rfl, rfl⟩
theorem rcode_11 (w : World) : Calls Try.prog 66 #[.int .i64 11] w fun e w' => e = .returned (.int .u8 9) ∧ w = w' := by
  go_enter Try.func66, Try.ntmps66
  go_wp2
  go_ret
  exact ⟨rfl, rfl⟩
theorem rcode_12 (w : World) : Calls Try.prog 66 #[.int .i64 12] w fun e w' => e = .returned (.int .u8 49) ∧ w = w' := by
  go_enter Try.func66, Try.ntmps66
  go_wp2
  go_ret
  exact ⟨rfl, rfl⟩
theorem rcode_13 (w : World) : Calls Try.prog 66 #[.int .i64 13] w fun e w' => e = .returned (.int .u8 57) ∧ w = w' := by
  go_enter Try.func66, Try.ntmps66
  go_wp2
  go_ret
  exact ⟨rfl, rfl⟩
theorem rcode_14 (w : World) : Calls Try.prog 66 #[.int .i64 14] w fun e w' => e = .returned (.int .u8 133) ∧ w = w' := by
  go_enter Try.func66, Try.ntmps66
  go_wp2
  go_ret
  exact ⟨rfl, rfl⟩
set_option maxHeartbeats 2000000 in
theorem rlittle_0 (n : Int) (w : World) (_hn : -9223372036854775808 ≤ n ∧ n ≤ 9223372036854775807) :
    Calls Try.prog 62 #[.int .i64 n, .int .i64 0] w fun e w' => RetB w.heap.size (littleL n 0) e w' ∧ Below w.heap.size w w' := by
  go_enter Try.func62, Try.ntmps62
  go_wp2
  go_loopw [5, 6] (fun v i wr => ((i = .int .i64 0 ∧ IsB wr w.heap.size v (littleL n 0))) ∧ Below w.heap.size w wr) (fun _ i _ => 0 - (intOf i).toNat)
  case atStart => exact ⟨⟨rfl, IsB.nil _ _⟩, Below.refl _ _⟩
  case round =>
    obtain ⟨hrel, hb⟩ := hrel
    have hsz := hb.size
    rcases hrel with ⟨rfl, hB⟩
    · go_wp2
      go_ret
      exact ⟨⟨_, rfl, hB⟩, hb⟩
set_option maxHeartbeats 2000000 in
theorem rlittle_1 (n : Int) (w : World) (_hn : -9223372036854775808 ≤ n ∧ n ≤ 9223372036854775807) :
    Calls Try.prog 62 #[.int .i64 n, .int .i64 1] w fun e w' => RetB w.heap.size (littleL n 1) e w' ∧ Below w.heap.size w w' := by
  go_enter Try.func62, Try.ntmps62
  go_wp2
  go_loopw [5, 6] (fun v i wr => ((i = .int .i64 0 ∧ IsB wr w.heap.size v (littleL n 0)) ∨ (i = .int .i64 1 ∧ IsB wr w.heap.size v (littleL n 1))) ∧ Below w.heap.size w wr) (fun _ i _ => 1 - (intOf i).toNat)
  case atStart => exact ⟨.inl ⟨rfl, IsB.nil _ _⟩, Below.refl _ _⟩
  case round =>
    obtain ⟨hrel, hb⟩ := hrel
    have hsz := hb.size
    rcases hrel with ⟨rfl, hB⟩ | ⟨rfl, hB⟩
    · go_wp2_with (at_builtin; refine wpList_appB (xs := littleL n 0) (bs := [n / 1 % 256]) (B := w.heap.size) (B' := 0) rfl _ _ rfl rfl rfl (IsB.alloc hB _) (IsB.lit wr 0 [n / 1 % 256] 1 rfl _ (by simp) (Nat.zero_le _) (by simp)) (le_alloc hsz _) (by rw [littleL_length]; simp) ?_; intro v' w' hB' hb'; clear hB)
      go_roundw
      case rel => exact ⟨.inr (⟨rfl, by have e : littleL n 1 = littleL n 0 ++ [n / 1 % 256] := (by simp only [littleL, List.nil_append]; try (simp; try omega)); rw [e]; exact hB'⟩), (bal hb _).trans hb'⟩
      case measure => simp [intOf]
    · go_wp2
      go_ret
      exact ⟨⟨_, rfl, hB⟩, hb⟩
set_option maxHeartbeats 2000000 in
theorem rlittle_4 (n : Int) (w : World) (_hn : -9223372036854775808 ≤ n ∧ n ≤ 9223372036854775807) :
    Calls Try.prog 62 #[.int .i64 n, .int .i64 4] w fun e w' => RetB w.heap.size (littleL n 4) e w' ∧ Below w.heap.size w w' := by
  go_enter Try.func62, Try.ntmps62
  go_wp2
  go_loopw [5, 6] (fun v i wr => ((i = .int .i64 0 ∧ IsB wr w.heap.size v (littleL n 0)) ∨ (i = .int .i64 1 ∧ IsB wr w.heap.size v (littleL n 1)) ∨ (i = .int .i64 2 ∧ IsB wr w.heap.size v (littleL n 2)) ∨ (i = .int .i64 3 ∧ IsB wr w.heap.size v (littleL n 3)) ∨ (i = .int .i64 4 ∧ IsB wr w.heap.size v (littleL n 4))) ∧ Below w.heap.size w wr) (fun _ i _ => 4 - (intOf i).toNat)
  case atStart => exact ⟨.inl ⟨rfl, IsB.nil _ _⟩, Below.refl _ _⟩
  case round =>
    obtain ⟨hrel, hb⟩ := hrel
    have hsz := hb.size
    rcases hrel with ⟨rfl, hB⟩ | ⟨rfl, hB⟩ | ⟨rfl, hB⟩ | ⟨rfl, hB⟩ | ⟨rfl, hB⟩
    · go_wp2_with (at_builtin; refine wpList_appB (xs := littleL n 0) (bs := [n / 1 % 256]) (B := w.heap.size) (B' := 0) rfl _ _ rfl rfl rfl (IsB.alloc hB _) (IsB.lit wr 0 [n / 1 % 256] 1 rfl _ (by simp) (Nat.zero_le _) (by simp)) (le_alloc hsz _) (by rw [littleL_length]; simp) ?_; intro v' w' hB' hb'; clear hB)
      go_roundw
      case rel => exact ⟨.inr (.inl ⟨rfl, by have e : littleL n 1 = littleL n 0 ++ [n / 1 % 256] := (by simp only [littleL, List.nil_append]; try (simp; try omega)); rw [e]; exact hB'⟩), (bal hb _).trans hb'⟩
      case measure => simp [intOf]
    · go_wp2_with (at_builtin; refine wpList_appB (xs := littleL n 1) (bs := [n / 256 % 256]) (B := w.heap.size) (B' := 0) rfl _ _ rfl rfl rfl (IsB.alloc hB _) (IsB.lit wr 0 [n / 256 % 256] 1 rfl _ (by simp) (Nat.zero_le _) (by simp)) (le_alloc hsz _) (by rw [littleL_length]; simp) ?_; intro v' w' hB' hb'; clear hB)
      go_roundw
      case rel => exact ⟨.inr (.inr (.inl ⟨rfl, by have e : littleL n 2 = littleL n 1 ++ [n / 256 % 256] := (by simp only [littleL, List.cons_append, List.nil_append]; try (simp; try omega)); rw [e]; exact hB'⟩)), (bal hb _).trans hb'⟩
      case measure => simp [intOf]
    · go_wp2_with (at_builtin; refine wpList_appB (xs := littleL n 2) (bs := [n / 65536 % 256]) (B := w.heap.size) (B' := 0) rfl _ _ rfl rfl rfl (IsB.alloc hB _) (IsB.lit wr 0 [n / 65536 % 256] 1 rfl _ (by simp) (Nat.zero_le _) (by simp)) (le_alloc hsz _) (by rw [littleL_length]; simp) ?_; intro v' w' hB' hb'; clear hB)
      go_roundw
      case rel => exact ⟨.inr (.inr (.inr (.inl ⟨rfl, by have e : littleL n 3 = littleL n 2 ++ [n / 65536 % 256] := (by simp only [littleL, List.cons_append, List.nil_append]; try (simp; try omega)); rw [e]; exact hB'⟩))), (bal hb _).trans hb'⟩
      case measure => simp [intOf]
    · go_wp2_with (at_builtin; refine wpList_appB (xs := littleL n 3) (bs := [n / 16777216 % 256]) (B := w.heap.size) (B' := 0) rfl _ _ rfl rfl rfl (IsB.alloc hB _) (IsB.lit wr 0 [n / 16777216 % 256] 1 rfl _ (by simp) (Nat.zero_le _) (by simp)) (le_alloc hsz _) (by rw [littleL_length]; simp) ?_; intro v' w' hB' hb'; clear hB)
      go_roundw
      case rel => exact ⟨.inr (.inr (.inr (.inr (⟨rfl, by have e : littleL n 4 = littleL n 3 ++ [n / 16777216 % 256] := (by simp only [littleL, List.cons_append, List.nil_append]; try (simp; try omega)); rw [e]; exact hB'⟩)))), (bal hb _).trans hb'⟩
      case measure => simp [intOf]
    · go_wp2
      go_ret
      exact ⟨⟨_, rfl, hB⟩, hb⟩
set_option maxHeartbeats 2000000 in
theorem rlittle_8 (n : Int) (w : World) (_hn : -9223372036854775808 ≤ n ∧ n ≤ 9223372036854775807) :
    Calls Try.prog 62 #[.int .i64 n, .int .i64 8] w fun e w' => RetB w.heap.size (littleL n 8) e w' ∧ Below w.heap.size w w' := by
  go_enter Try.func62, Try.ntmps62
  go_wp2
  go_loopw [5, 6] (fun v i wr => ((i = .int .i64 0 ∧ IsB wr w.heap.size v (littleL n 0)) ∨ (i = .int .i64 1 ∧ IsB wr w.heap.size v (littleL n 1)) ∨ (i = .int .i64 2 ∧ IsB wr w.heap.size v (littleL n 2)) ∨ (i = .int .i64 3 ∧ IsB wr w.heap.size v (littleL n 3)) ∨ (i = .int .i64 4 ∧ IsB wr w.heap.size v (littleL n 4)) ∨ (i = .int .i64 5 ∧ IsB wr w.heap.size v (littleL n 5)) ∨ (i = .int .i64 6 ∧ IsB wr w.heap.size v (littleL n 6)) ∨ (i = .int .i64 7 ∧ IsB wr w.heap.size v (littleL n 7)) ∨ (i = .int .i64 8 ∧ IsB wr w.heap.size v (littleL n 8))) ∧ Below w.heap.size w wr) (fun _ i _ => 8 - (intOf i).toNat)
  case atStart => exact ⟨.inl ⟨rfl, IsB.nil _ _⟩, Below.refl _ _⟩
  case round =>
    obtain ⟨hrel, hb⟩ := hrel
    have hsz := hb.size
    rcases hrel with ⟨rfl, hB⟩ | ⟨rfl, hB⟩ | ⟨rfl, hB⟩ | ⟨rfl, hB⟩ | ⟨rfl, hB⟩ | ⟨rfl, hB⟩ | ⟨rfl, hB⟩ | ⟨rfl, hB⟩ | ⟨rfl, hB⟩
    · go_wp2_with (at_builtin; refine wpList_appB (xs := littleL n 0) (bs := [n / 1 % 256]) (B := w.heap.size) (B' := 0) rfl _ _ rfl rfl rfl (IsB.alloc hB _) (IsB.lit wr 0 [n / 1 % 256] 1 rfl _ (by simp) (Nat.zero_le _) (by simp)) (le_alloc hsz _) (by rw [littleL_length]; simp) ?_; intro v' w' hB' hb'; clear hB)
      go_roundw
      case rel => exact ⟨.inr (.inl ⟨rfl, by have e : littleL n 1 = littleL n 0 ++ [n / 1 % 256] := (by simp only [littleL, List.nil_append]; try (simp; try omega)); rw [e]; exact hB'⟩), (bal hb _).trans hb'⟩
      case measure => simp [intOf]
    · go_wp2_with (at_builtin; refine wpList_appB (xs := littleL n 1) (bs := [n / 256 % 256]) (B := w.heap.size) (B' := 0) rfl _ _ rfl rfl rfl (IsB.alloc hB _) (IsB.lit wr 0 [n / 256 % 256] 1 rfl _ (by simp) (Nat.zero_le _) (by simp)) (le_alloc hsz _) (by rw [littleL_length]; simp) ?_; intro v' w' hB' hb'; clear hB)
      go_roundw
      case rel => exact ⟨.inr (.inr (.inl ⟨rfl, by have e : littleL n 2 = littleL n 1 ++ [n / 256 % 256] := (by simp only [littleL, List.cons_append, List.nil_append]; try (simp; try omega)); rw [e]; exact hB'⟩)), (bal hb _).trans hb'⟩
      case measure => simp [intOf]
    · go_wp2_with (at_builtin; refine wpList_appB (xs := littleL n 2) (bs := [n / 65536 % 256]) (B := w.heap.size) (B' := 0) rfl _ _ rfl rfl rfl (IsB.alloc hB _) (IsB.lit wr 0 [n / 65536 % 256] 1 rfl _ (by simp) (Nat.zero_le _) (by simp)) (le_alloc hsz _) (by rw [littleL_length]; simp) ?_; intro v' w' hB' hb'; clear hB)
      go_roundw
      case rel => exact ⟨.inr (.inr (.inr (.inl ⟨rfl, by have e : littleL n 3 = littleL n 2 ++ [n / 65536 % 256] := (by simp only [littleL, List.cons_append, List.nil_append]; try (simp; try omega)); rw [e]; exact hB'⟩))), (bal hb _).trans hb'⟩
      case measure => simp [intOf]
    · go_wp2_with (at_builtin; refine wpList_appB (xs := littleL n 3) (bs := [n / 16777216 % 256]) (B := w.heap.size) (B' := 0) rfl _ _ rfl rfl rfl (IsB.alloc hB _) (IsB.lit wr 0 [n / 16777216 % 256] 1 rfl _ (by simp) (Nat.zero_le _) (by simp)) (le_alloc hsz _) (by rw [littleL_length]; simp) ?_; intro v' w' hB' hb'; clear hB)
      go_roundw
      case rel => exact ⟨.inr (.inr (.inr (.inr (.inl ⟨rfl, by have e : littleL n 4 = littleL n 3 ++ [n / 16777216 % 256] := (by simp only [littleL, List.cons_append, List.nil_append]; try (simp; try omega)); rw [e]; exact hB'⟩)))), (bal hb _).trans hb'⟩
      case measure => simp [intOf]
    · go_wp2_with (at_builtin; refine wpList_appB (xs := littleL n 4) (bs := [n / 4294967296 % 256]) (B := w.heap.size) (B' := 0) rfl _ _ rfl rfl rfl (IsB.alloc hB _) (IsB.lit wr 0 [n / 4294967296 % 256] 1 rfl _ (by simp) (Nat.zero_le _) (by simp)) (le_alloc hsz _) (by rw [littleL_length]; simp) ?_; intro v' w' hB' hb'; clear hB)
      go_roundw
      case rel => exact ⟨.inr (.inr (.inr (.inr (.inr (.inl ⟨rfl, by have e : littleL n 5 = littleL n 4 ++ [n / 4294967296 % 256] := (by simp only [littleL, List.cons_append, List.nil_append]; try (simp; try omega)); rw [e]; exact hB'⟩))))), (bal hb _).trans hb'⟩
      case measure => simp [intOf]
    · go_wp2_with (at_builtin; refine wpList_appB (xs := littleL n 5) (bs := [n / 1099511627776 % 256]) (B := w.heap.size) (B' := 0) rfl _ _ rfl rfl rfl (IsB.alloc hB _) (IsB.lit wr 0 [n / 1099511627776 % 256] 1 rfl _ (by simp) (Nat.zero_le _) (by simp)) (le_alloc hsz _) (by rw [littleL_length]; simp) ?_; intro v' w' hB' hb'; clear hB)
      go_roundw
      case rel => exact ⟨.inr (.inr (.inr (.inr (.inr (.inr (.inl ⟨rfl, by have e : littleL n 6 = littleL n 5 ++ [n / 1099511627776 % 256] := (by simp only [littleL, List.cons_append, List.nil_append]; try (simp; try omega)); rw [e]; exact hB'⟩)))))), (bal hb _).trans hb'⟩
      case measure => simp [intOf]
    · go_wp2_with (at_builtin; refine wpList_appB (xs := littleL n 6) (bs := [n / 281474976710656 % 256]) (B := w.heap.size) (B' := 0) rfl _ _ rfl rfl rfl (IsB.alloc hB _) (IsB.lit wr 0 [n / 281474976710656 % 256] 1 rfl _ (by simp) (Nat.zero_le _) (by simp)) (le_alloc hsz _) (by rw [littleL_length]; simp) ?_; intro v' w' hB' hb'; clear hB)
      go_roundw
      case rel => exact ⟨.inr (.inr (.inr (.inr (.inr (.inr (.inr (.inl ⟨rfl, by have e : littleL n 7 = littleL n 6 ++ [n / 281474976710656 % 256] := (by simp only [littleL, List.cons_append, List.nil_append]; try (simp; try omega)); rw [e]; exact hB'⟩))))))), (bal hb _).trans hb'⟩
      case measure => simp [intOf]
    · go_wp2_with (at_builtin; refine wpList_appB (xs := littleL n 7) (bs := [n / 72057594037927936 % 256]) (B := w.heap.size) (B' := 0) rfl _ _ rfl rfl rfl (IsB.alloc hB _) (IsB.lit wr 0 [n / 72057594037927936 % 256] 1 rfl _ (by simp) (Nat.zero_le _) (by simp)) (le_alloc hsz _) (by rw [littleL_length]; simp) ?_; intro v' w' hB' hb'; clear hB)
      go_roundw
      case rel => exact ⟨.inr (.inr (.inr (.inr (.inr (.inr (.inr (.inr (⟨rfl, by have e : littleL n 8 = littleL n 7 ++ [n / 72057594037927936 % 256] := (by simp only [littleL, List.cons_append, List.nil_append]; try (simp; try omega)); rw [e]; exact hB'⟩)))))))), (bal hb _).trans hb'⟩
      case measure => simp [intOf]
    · go_wp2
      go_ret
      exact ⟨⟨_, rfl, hB⟩, hb⟩
theorem rlittle_any (n : Int) (k : Nat) (w : World) (hk : k = 0 ∨ k = 1 ∨ k = 4 ∨ k = 8) (hn : -9223372036854775808 ≤ n ∧ n ≤ 9223372036854775807) :
    Calls Try.prog 62 #[.int .i64 n, .int .i64 k] w fun e w' => RetB w.heap.size (littleL n k) e w' ∧ Below w.heap.size w w' := by
  rcases hk with rfl | rfl | rfl | rfl
  · exact rlittle_0 n w hn
  · exact rlittle_1 n w hn
  · exact rlittle_4 n w hn
  · exact rlittle_8 n w hn
end Go.Proofs.Ytakmpnmmcjnecaa
