/- keysmithlaw06.EncodeNumbers, joined: a number stands in the last bytes. Conditions: the numbers are numbers of their kinds. -/
import Derived.Test.YtakmpnmmcjnecaaENums
import Derived.Test.YtakmpnmmcjnecaaFrame
namespace Go.Proofs.Ytakmpnmmcjnecaa
open Go.RowKit Calm

theorem extract_left (x y : ByteArray) (n : Nat) (h : n = x.size) : (x ++ y).extract 0 n = x := by
  subst h
  apply ba_ext
  rw [ByteArray.data_extract, ByteArray.data_append, Array.toList_extract, Array.toList_append]
  simp [List.extract]
theorem little4 (n : Int) : littleL n 4 = [n % 256, n / 256 % 256, n / 256 / 256 % 256, n / 256 / 256 / 256 % 256] := rfl
theorem eNums_pre (op d s t mb mi ms md imm n : Int) (P : List Int) (w : World) (hk : chk op d s t mb mi ms md imm = true) (hi : hasC (formB op) 105 = true) (hsz : (formB op).size ≤ 1000)
    (hmd : I64 md) (himm : I64 imm) (hn : -2147483648 ≤ n ∧ n ≤ 2147483647) (hk2 : chk op d s t mb mi ms md n = true)
    (ha : encL op d s t mb mi ms md imm = P ++ littleL imm 4) (hb : encL op d s t mb mi ms md n = P ++ littleL n 4) (hP : 1 ≤ P.length) :
    Calls Try.prog 3 #[.agg #[.int .i64 op, .int .i64 d, .int .i64 s, .int .i64 t, .int .i64 mb, .int .i64 mi, .int .i64 ms, .int .i64 md, .int .i64 imm], .int .i32 n] w fun e w' => e = .returned (.bool true) ∧ Below w.heap.size w w' := by
  have hA := encL_bytes hk
  have hB := encL_bytes hk2
  rw [ha] at hA
  rw [hb] at hB
  have oa : outE op d s t mb mi ms md imm = strB (P ++ littleL imm 4) := by unfold outE; rw [if_pos hk, ha]
  have ob : outE op d s t mb mi ms md n = strB (P ++ littleL n 4) := by unfold outE; rw [if_pos hk2, hb]
  have la : (P ++ littleL imm 4).length = P.length + 4 := by rw [List.length_append, littleL_length]
  have lb : (P ++ littleL n 4).length = P.length + 4 := by rw [List.length_append, littleL_length]
  have sa : (strB (P ++ littleL imm 4)).size = P.length + 4 := by rw [strB_size, la]
  have sb : (strB (P ++ littleL n 4)).size = P.length + 4 := by rw [strB_size, lb]
  have get : ∀ (j : Nat) (x : Int), (littleL n 4)[j]? = some x → ∀ (k : Nat) (h : k < (strB (P ++ littleL n 4)).size), k = P.length + j → ((strB (P ++ littleL n 4))[k].toNat : Int) = x := by
    intro j x hx k h hkj
    have e := strB_get hB.1 k h
    rw [List.getElem?_append_right (by omega), show k - P.length = j by omega, hx, Option.some.injEq] at e
    exact e.symm
  refine eNums_c op d s t mb mi ms md imm n _ _ w hk hi hsz hmd himm hn hk2 oa ob (by omega) (by rw [sa]; have := hA.2.2; omega) (by rw [sa, sb]) (strB P) ?_ ?_ ?_ ?_ ?_ ?_
  · rw [strB_append]; exact extract_left _ _ _ (by rw [← strB_append, sa, strB_size]; omega)
  · rw [strB_append]; exact extract_left _ _ _ (by rw [← strB_append, sb, strB_size]; omega)
  · intro h; rw [get 0 (n % 256) rfl _ h (by omega)]; simp
  · intro h; rw [get 1 (n / 256 % 256) rfl _ h (by omega), bne_eq_false_iff_eq]; omega
  · intro h; rw [get 2 (n / 256 / 256 % 256) rfl _ h (by omega), bne_eq_false_iff_eq]; omega
  · intro h; rw [get 3 (n / 256 / 256 / 256 % 256) rfl _ h (by omega), bne_eq_false_iff_eq]; omega
theorem eNums_15 (d s t mb mi ms md imm n : Int) (w : World) (hk : chk 15 d s t mb mi ms md imm = true) (hmd : I64 md) (himm : I64 imm) (hn : -2147483648 ≤ n ∧ n ≤ 2147483647) :
    Calls Try.prog 3 #[.agg #[.int .i64 15, .int .i64 d, .int .i64 s, .int .i64 t, .int .i64 mb, .int .i64 mi, .int .i64 ms, .int .i64 md, .int .i64 imm], .int .i32 n] w fun e w' => e = .returned (.bool true) ∧ Below w.heap.size w w' := by
  have hk2 : chk 15 d s t mb mi ms md n = true := by
    rw [chk_15] at hk ⊢
    exact ⟨hn, hk.2⟩
  exact eNums_pre 15 d s t mb mi ms md imm n [rexI 0 0 d, 129, bothI 0 d] w hk (by decide +kernel) (by decide +kernel) hmd himm hn hk2 rfl rfl (by simp)
theorem eNums_16 (d s t mb mi ms md imm n : Int) (w : World) (hk : chk 16 d s t mb mi ms md imm = true) (hmd : I64 md) (himm : I64 imm) (hn : -2147483648 ≤ n ∧ n ≤ 2147483647) :
    Calls Try.prog 3 #[.agg #[.int .i64 16, .int .i64 d, .int .i64 s, .int .i64 t, .int .i64 mb, .int .i64 mi, .int .i64 ms, .int .i64 md, .int .i64 imm], .int .i32 n] w fun e w' => e = .returned (.bool true) ∧ Below w.heap.size w w' := by
  have hk2 : chk 16 d s t mb mi ms md n = true := by
    rw [chk_16] at hk ⊢
    exact ⟨hn, hk.2⟩
  exact eNums_pre 16 d s t mb mi ms md imm n [rexI 0 0 d, 129, bothI 4 d] w hk (by decide +kernel) (by decide +kernel) hmd himm hn hk2 rfl rfl (by simp)
theorem eNums_17 (d s t mb mi ms md imm n : Int) (w : World) (hk : chk 17 d s t mb mi ms md imm = true) (hmd : I64 md) (himm : I64 imm) (hn : -2147483648 ≤ n ∧ n ≤ 2147483647) :
    Calls Try.prog 3 #[.agg #[.int .i64 17, .int .i64 d, .int .i64 s, .int .i64 t, .int .i64 mb, .int .i64 mi, .int .i64 ms, .int .i64 md, .int .i64 imm], .int .i32 n] w fun e w' => e = .returned (.bool true) ∧ Below w.heap.size w w' := by
  have hk2 : chk 17 d s t mb mi ms md n = true := by
    rw [chk_17] at hk ⊢
    exact ⟨hn, hk.2⟩
  exact eNums_pre 17 d s t mb mi ms md imm n [rexI 0 0 d, 129, bothI 5 d] w hk (by decide +kernel) (by decide +kernel) hmd himm hn hk2 rfl rfl (by simp)
theorem eNums_18 (d s t mb mi ms md imm n : Int) (w : World) (hk : chk 18 d s t mb mi ms md imm = true) (hmd : I64 md) (himm : I64 imm) (hn : -2147483648 ≤ n ∧ n ≤ 2147483647) :
    Calls Try.prog 3 #[.agg #[.int .i64 18, .int .i64 d, .int .i64 s, .int .i64 t, .int .i64 mb, .int .i64 mi, .int .i64 ms, .int .i64 md, .int .i64 imm], .int .i32 n] w fun e w' => e = .returned (.bool true) ∧ Below w.heap.size w w' := by
  have hk2 : chk 18 d s t mb mi ms md n = true := by
    rw [chk_18] at hk ⊢
    exact ⟨hn, hk.2⟩
  exact eNums_pre 18 d s t mb mi ms md imm n [rexI 0 0 d, 129, bothI 7 d] w hk (by decide +kernel) (by decide +kernel) hmd himm hn hk2 rfl rfl (by simp)
theorem eNums_30 (d s t mb mi ms md imm n : Int) (w : World) (hk : chk 30 d s t mb mi ms md imm = true) (hmd : I64 md) (himm : I64 imm) (hn : -2147483648 ≤ n ∧ n ≤ 2147483647) :
    Calls Try.prog 3 #[.agg #[.int .i64 30, .int .i64 d, .int .i64 s, .int .i64 t, .int .i64 mb, .int .i64 mi, .int .i64 ms, .int .i64 md, .int .i64 imm], .int .i32 n] w fun e w' => e = .returned (.bool true) ∧ Below w.heap.size w w' := by
  have hk2 : chk 30 d s t mb mi ms md n = true := by
    rw [chk_30] at hk ⊢
    exact ⟨hn, hk.2⟩
  exact eNums_pre 30 d s t mb mi ms md imm n [233] w hk (by decide +kernel) (by decide +kernel) hmd himm hn hk2 rfl rfl (by simp)
theorem eNums_31 (d s t mb mi ms md imm n : Int) (w : World) (hk : chk 31 d s t mb mi ms md imm = true) (hmd : I64 md) (himm : I64 imm) (hn : -2147483648 ≤ n ∧ n ≤ 2147483647) :
    Calls Try.prog 3 #[.agg #[.int .i64 31, .int .i64 d, .int .i64 s, .int .i64 t, .int .i64 mb, .int .i64 mi, .int .i64 ms, .int .i64 md, .int .i64 imm], .int .i32 n] w fun e w' => e = .returned (.bool true) ∧ Below w.heap.size w w' := by
  have hk2 : chk 31 d s t mb mi ms md n = true := by
    rw [chk_31] at hk ⊢
    exact ⟨hn, hk.2⟩
  exact eNums_pre 31 d s t mb mi ms md imm n [15, 133] w hk (by decide +kernel) (by decide +kernel) hmd himm hn hk2 rfl rfl (by simp)
theorem eNums_32 (d s t mb mi ms md imm n : Int) (w : World) (hk : chk 32 d s t mb mi ms md imm = true) (hmd : I64 md) (himm : I64 imm) (hn : -2147483648 ≤ n ∧ n ≤ 2147483647) :
    Calls Try.prog 3 #[.agg #[.int .i64 32, .int .i64 d, .int .i64 s, .int .i64 t, .int .i64 mb, .int .i64 mi, .int .i64 ms, .int .i64 md, .int .i64 imm], .int .i32 n] w fun e w' => e = .returned (.bool true) ∧ Below w.heap.size w w' := by
  have hk2 : chk 32 d s t mb mi ms md n = true := by
    rw [chk_32] at hk ⊢
    exact ⟨hn, hk.2⟩
  exact eNums_pre 32 d s t mb mi ms md imm n [15, 130] w hk (by decide +kernel) (by decide +kernel) hmd himm hn hk2 rfl rfl (by simp)
theorem i32_of_wf {n : Int} (h : (Lit.int .i32 n).wf = true) : -2147483648 ≤ n ∧ n ≤ 2147483647 := by
  have hmin : IntKind.i32.min = -2147483648 := rfl
  have hmax : IntKind.i32.max = 2147483647 := rfl
  simp only [Lit.wf, Bool.and_eq_true, decide_eq_true_eq] at h; omega
theorem eNums_walk (op d s t mb mi ms md imm : Int) (_h0 : I64 op) (_h1 : I64 d) (_h2 : I64 s) (_h3 : I64 t) (_h4 : I64 mb) (_h5 : I64 mi) (_h6 : I64 ms) (h7 : I64 md) (h8 : I64 imm) (n : Int) (wn : (Lit.int .i32 n).wf = true) (w : World) :
    Calls Try.prog 3 #[instV op d s t mb mi ms md imm, .int .i32 n] w fun e w' => e = .returned (.bool true) ∧ Below w.heap.size w w' := by
  have hn := i32_of_wf wn
  unfold instV
  cases hk : chk op d s t mb mi ms md imm
  · exact eNums_a op d s t mb mi ms md imm n w hk
  · have hr := chk_range hk
    have : op = 1 ∨ op = 2 ∨ op = 3 ∨ op = 4 ∨ op = 5 ∨ op = 6 ∨ op = 7 ∨ op = 8 ∨ op = 9 ∨ op = 10 ∨ op = 11 ∨ op = 12 ∨ op = 13 ∨ op = 14 ∨ op = 15 ∨ op = 16 ∨ op = 17 ∨ op = 18 ∨ op = 19 ∨ op = 20 ∨ op = 21 ∨ op = 22 ∨ op = 23 ∨ op = 24 ∨ op = 25 ∨ op = 26 ∨ op = 27 ∨ op = 28 ∨ op = 29 ∨ op = 30 ∨ op = 31 ∨ op = 32 ∨ op = 33 := by omega
    rcases this with rfl | rfl | rfl | rfl | rfl | rfl | rfl | rfl | rfl | rfl | rfl | rfl | rfl | rfl | rfl | rfl | rfl | rfl | rfl | rfl | rfl | rfl | rfl | rfl | rfl | rfl | rfl | rfl | rfl | rfl | rfl | rfl | rfl
    · exact eNums_b 1 d s t mb mi ms md imm n w hk (by decide +kernel) (by decide +kernel)
    · exact eNums_b 2 d s t mb mi ms md imm n w hk (by decide +kernel) (by decide +kernel)
    · exact eNums_b 3 d s t mb mi ms md imm n w hk (by decide +kernel) (by decide +kernel)
    · exact eNums_b 4 d s t mb mi ms md imm n w hk (by decide +kernel) (by decide +kernel)
    · exact eNums_b 5 d s t mb mi ms md imm n w hk (by decide +kernel) (by decide +kernel)
    · exact eNums_b 6 d s t mb mi ms md imm n w hk (by decide +kernel) (by decide +kernel)
    · exact eNums_b 7 d s t mb mi ms md imm n w hk (by decide +kernel) (by decide +kernel)
    · exact eNums_b 8 d s t mb mi ms md imm n w hk (by decide +kernel) (by decide +kernel)
    · exact eNums_b 9 d s t mb mi ms md imm n w hk (by decide +kernel) (by decide +kernel)
    · exact eNums_b 10 d s t mb mi ms md imm n w hk (by decide +kernel) (by decide +kernel)
    · exact eNums_b 11 d s t mb mi ms md imm n w hk (by decide +kernel) (by decide +kernel)
    · exact eNums_b 12 d s t mb mi ms md imm n w hk (by decide +kernel) (by decide +kernel)
    · exact eNums_b 13 d s t mb mi ms md imm n w hk (by decide +kernel) (by decide +kernel)
    · exact eNums_b 14 d s t mb mi ms md imm n w hk (by decide +kernel) (by decide +kernel)
    · exact eNums_15 d s t mb mi ms md imm n w hk h7 h8 hn
    · exact eNums_16 d s t mb mi ms md imm n w hk h7 h8 hn
    · exact eNums_17 d s t mb mi ms md imm n w hk h7 h8 hn
    · exact eNums_18 d s t mb mi ms md imm n w hk h7 h8 hn
    · exact eNums_b 19 d s t mb mi ms md imm n w hk (by decide +kernel) (by decide +kernel)
    · exact eNums_b 20 d s t mb mi ms md imm n w hk (by decide +kernel) (by decide +kernel)
    · exact eNums_b 21 d s t mb mi ms md imm n w hk (by decide +kernel) (by decide +kernel)
    · exact eNums_b 22 d s t mb mi ms md imm n w hk (by decide +kernel) (by decide +kernel)
    · exact eNums_b 23 d s t mb mi ms md imm n w hk (by decide +kernel) (by decide +kernel)
    · exact eNums_b 24 d s t mb mi ms md imm n w hk (by decide +kernel) (by decide +kernel)
    · exact eNums_b 25 d s t mb mi ms md imm n w hk (by decide +kernel) (by decide +kernel)
    · exact eNums_b 26 d s t mb mi ms md imm n w hk (by decide +kernel) (by decide +kernel)
    · exact eNums_b 27 d s t mb mi ms md imm n w hk (by decide +kernel) (by decide +kernel)
    · exact eNums_b 28 d s t mb mi ms md imm n w hk (by decide +kernel) (by decide +kernel)
    · exact eNums_b 29 d s t mb mi ms md imm n w hk (by decide +kernel) (by decide +kernel)
    · exact eNums_30 d s t mb mi ms md imm n w hk h7 h8 hn
    · exact eNums_31 d s t mb mi ms md imm n w hk h7 h8 hn
    · exact eNums_32 d s t mb mi ms md imm n w hk h7 h8 hn
    · exact eNums_b 33 d s t mb mi ms md imm n w hk (by decide +kernel) (by decide +kernel)
end Go.Proofs.Ytakmpnmmcjnecaa
