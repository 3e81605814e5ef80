
/- Several texts, one behind the other. -/
import Derived.Test.YtbcaelhchmoigaaML
import Derived.Test.YtbcaelhchmoigaaMRB
import Derived.Test.YtbcaelhchmoigaaME
import Derived.Test.YtbcaelhchmoigaaFrame
import Derived.DataReads
set_option linter.unusedVariables false
set_option linter.unusedSimpArgs false
/- keysmithref06 (the document's answer for layer 6): Inst, Size, All. Conditions: numbers are numbers of 64 bits; at most 1000 instructions. -/
namespace Go.Proofs.Ytbcaelhchmoigaa
open Go.RowKit Calm

theorem rput_1 (d s t mb mi ms md imm : Int) (w : World) (_hi : -9223372036854775808 ≤ imm ∧ imm ≤ 9223372036854775807) (h : chk 1 d s t mb mi ms md imm = true) :
    Calls Try.prog 47 #[.agg #[.int .i64 1, .int .i64 d, .int .i64 s, .int .i64 t, .int .i64 mb, .int .i64 mi, .int .i64 ms, .int .i64 md, .int .i64 imm]] w fun e w' => RetB w.heap.size (encL 1 d s t mb mi ms md imm) e w' ∧ Below w.heap.size w w' := by
  rw [chk_1] at h
  exact rbytes_1 d s t mb mi ms md imm w h.2.1 h.2.2.1
theorem rput_2 (d s t mb mi ms md imm : Int) (w : World) (hi : -9223372036854775808 ≤ imm ∧ imm ≤ 9223372036854775807) (h : chk 2 d s t mb mi ms md imm = true) :
    Calls Try.prog 47 #[.agg #[.int .i64 2, .int .i64 d, .int .i64 s, .int .i64 t, .int .i64 mb, .int .i64 mi, .int .i64 ms, .int .i64 md, .int .i64 imm]] w fun e w' => RetB w.heap.size (encL 2 d s t mb mi ms md imm) e w' ∧ Below w.heap.size w w' := by
  rw [chk_2] at h
  exact rbytes_2 d s t mb mi ms md imm w h.2.1 hi
theorem rput_3 (d s t mb mi ms md imm : Int) (w : World) (_hi : -9223372036854775808 ≤ imm ∧ imm ≤ 9223372036854775807) (h : chk 3 d s t mb mi ms md imm = true) :
    Calls Try.prog 47 #[.agg #[.int .i64 3, .int .i64 d, .int .i64 s, .int .i64 t, .int .i64 mb, .int .i64 mi, .int .i64 ms, .int .i64 md, .int .i64 imm]] w fun e w' => RetB w.heap.size (encL 3 d s t mb mi ms md imm) e w' ∧ Below w.heap.size w w' := by
  rw [chk_3] at h
  exact rbytes_3 d s t mb mi ms md imm w h.2.1 h.2.2.2.2
theorem rput_4 (d s t mb mi ms md imm : Int) (w : World) (_hi : -9223372036854775808 ≤ imm ∧ imm ≤ 9223372036854775807) (h : chk 4 d s t mb mi ms md imm = true) :
    Calls Try.prog 47 #[.agg #[.int .i64 4, .int .i64 d, .int .i64 s, .int .i64 t, .int .i64 mb, .int .i64 mi, .int .i64 ms, .int .i64 md, .int .i64 imm]] w fun e w' => RetB w.heap.size (encL 4 d s t mb mi ms md imm) e w' ∧ Below w.heap.size w w' := by
  rw [chk_4] at h
  exact rbytes_4 d s t mb mi ms md imm w h.2.2.1 h.2.2.2.2
theorem rput_5 (d s t mb mi ms md imm : Int) (w : World) (_hi : -9223372036854775808 ≤ imm ∧ imm ≤ 9223372036854775807) (h : chk 5 d s t mb mi ms md imm = true) :
    Calls Try.prog 47 #[.agg #[.int .i64 5, .int .i64 d, .int .i64 s, .int .i64 t, .int .i64 mb, .int .i64 mi, .int .i64 ms, .int .i64 md, .int .i64 imm]] w fun e w' => RetB w.heap.size (encL 5 d s t mb mi ms md imm) e w' ∧ Below w.heap.size w w' := by
  rw [chk_5] at h
  exact rbytes_5 d s t mb mi ms md imm w h.2.1 h.2.2.2.2
theorem rput_6 (d s t mb mi ms md imm : Int) (w : World) (_hi : -9223372036854775808 ≤ imm ∧ imm ≤ 9223372036854775807) (h : chk 6 d s t mb mi ms md imm = true) :
    Calls Try.prog 47 #[.agg #[.int .i64 6, .int .i64 d, .int .i64 s, .int .i64 t, .int .i64 mb, .int .i64 mi, .int .i64 ms, .int .i64 md, .int .i64 imm]] w fun e w' => RetB w.heap.size (encL 6 d s t mb mi ms md imm) e w' ∧ Below w.heap.size w w' := by
  rw [chk_6] at h
  exact rbytes_6 d s t mb mi ms md imm w h.2.1 h.2.2.1
theorem rput_7 (d s t mb mi ms md imm : Int) (w : World) (_hi : -9223372036854775808 ≤ imm ∧ imm ≤ 9223372036854775807) (h : chk 7 d s t mb mi ms md imm = true) :
    Calls Try.prog 47 #[.agg #[.int .i64 7, .int .i64 d, .int .i64 s, .int .i64 t, .int .i64 mb, .int .i64 mi, .int .i64 ms, .int .i64 md, .int .i64 imm]] w fun e w' => RetB w.heap.size (encL 7 d s t mb mi ms md imm) e w' ∧ Below w.heap.size w w' := by
  rw [chk_7] at h
  exact rbytes_7 d s t mb mi ms md imm w h.2.1 h.2.2.1
theorem rput_8 (d s t mb mi ms md imm : Int) (w : World) (_hi : -9223372036854775808 ≤ imm ∧ imm ≤ 9223372036854775807) (h : chk 8 d s t mb mi ms md imm = true) :
    Calls Try.prog 47 #[.agg #[.int .i64 8, .int .i64 d, .int .i64 s, .int .i64 t, .int .i64 mb, .int .i64 mi, .int .i64 ms, .int .i64 md, .int .i64 imm]] w fun e w' => RetB w.heap.size (encL 8 d s t mb mi ms md imm) e w' ∧ Below w.heap.size w w' := by
  rw [chk_8] at h
  exact rbytes_8 d s t mb mi ms md imm w h.2.1 h.2.2.1
theorem rput_9 (d s t mb mi ms md imm : Int) (w : World) (_hi : -9223372036854775808 ≤ imm ∧ imm ≤ 9223372036854775807) (h : chk 9 d s t mb mi ms md imm = true) :
    Calls Try.prog 47 #[.agg #[.int .i64 9, .int .i64 d, .int .i64 s, .int .i64 t, .int .i64 mb, .int .i64 mi, .int .i64 ms, .int .i64 md, .int .i64 imm]] w fun e w' => RetB w.heap.size (encL 9 d s t mb mi ms md imm) e w' ∧ Below w.heap.size w w' := by
  rw [chk_9] at h
  exact rbytes_9 d s t mb mi ms md imm w h.2.1 h.2.2.1
theorem rput_10 (d s t mb mi ms md imm : Int) (w : World) (_hi : -9223372036854775808 ≤ imm ∧ imm ≤ 9223372036854775807) (h : chk 10 d s t mb mi ms md imm = true) :
    Calls Try.prog 47 #[.agg #[.int .i64 10, .int .i64 d, .int .i64 s, .int .i64 t, .int .i64 mb, .int .i64 mi, .int .i64 ms, .int .i64 md, .int .i64 imm]] w fun e w' => RetB w.heap.size (encL 10 d s t mb mi ms md imm) e w' ∧ Below w.heap.size w w' := by
  rw [chk_10] at h
  exact rbytes_10 d s t mb mi ms md imm w h.2.1 h.2.2.1
theorem rput_11 (d s t mb mi ms md imm : Int) (w : World) (_hi : -9223372036854775808 ≤ imm ∧ imm ≤ 9223372036854775807) (h : chk 11 d s t mb mi ms md imm = true) :
    Calls Try.prog 47 #[.agg #[.int .i64 11, .int .i64 d, .int .i64 s, .int .i64 t, .int .i64 mb, .int .i64 mi, .int .i64 ms, .int .i64 md, .int .i64 imm]] w fun e w' => RetB w.heap.size (encL 11 d s t mb mi ms md imm) e w' ∧ Below w.heap.size w w' := by
  rw [chk_11] at h
  exact rbytes_11 d s t mb mi ms md imm w h.2.1 h.2.2.1
theorem rput_12 (d s t mb mi ms md imm : Int) (w : World) (_hi : -9223372036854775808 ≤ imm ∧ imm ≤ 9223372036854775807) (h : chk 12 d s t mb mi ms md imm = true) :
    Calls Try.prog 47 #[.agg #[.int .i64 12, .int .i64 d, .int .i64 s, .int .i64 t, .int .i64 mb, .int .i64 mi, .int .i64 ms, .int .i64 md, .int .i64 imm]] w fun e w' => RetB w.heap.size (encL 12 d s t mb mi ms md imm) e w' ∧ Below w.heap.size w w' := by
  rw [chk_12] at h
  exact rbytes_12 d s t mb mi ms md imm w h.2.1 h.2.2.1
theorem rput_13 (d s t mb mi ms md imm : Int) (w : World) (_hi : -9223372036854775808 ≤ imm ∧ imm ≤ 9223372036854775807) (h : chk 13 d s t mb mi ms md imm = true) :
    Calls Try.prog 47 #[.agg #[.int .i64 13, .int .i64 d, .int .i64 s, .int .i64 t, .int .i64 mb, .int .i64 mi, .int .i64 ms, .int .i64 md, .int .i64 imm]] w fun e w' => RetB w.heap.size (encL 13 d s t mb mi ms md imm) e w' ∧ Below w.heap.size w w' := by
  rw [chk_13] at h
  exact rbytes_13 d s t mb mi ms md imm w h.2.1 h.2.2.1
theorem rput_14 (d s t mb mi ms md imm : Int) (w : World) (_hi : -9223372036854775808 ≤ imm ∧ imm ≤ 9223372036854775807) (h : chk 14 d s t mb mi ms md imm = true) :
    Calls Try.prog 47 #[.agg #[.int .i64 14, .int .i64 d, .int .i64 s, .int .i64 t, .int .i64 mb, .int .i64 mi, .int .i64 ms, .int .i64 md, .int .i64 imm]] w fun e w' => RetB w.heap.size (encL 14 d s t mb mi ms md imm) e w' ∧ Below w.heap.size w w' := by
  rw [chk_14] at h
  exact rbytes_14 d s t mb mi ms md imm w h.2.1 h.2.2.1
theorem rput_15 (d s t mb mi ms md imm : Int) (w : World) (hi : -9223372036854775808 ≤ imm ∧ imm ≤ 9223372036854775807) (h : chk 15 d s t mb mi ms md imm = true) :
    Calls Try.prog 47 #[.agg #[.int .i64 15, .int .i64 d, .int .i64 s, .int .i64 t, .int .i64 mb, .int .i64 mi, .int .i64 ms, .int .i64 md, .int .i64 imm]] w fun e w' => RetB w.heap.size (encL 15 d s t mb mi ms md imm) e w' ∧ Below w.heap.size w w' := by
  rw [chk_15] at h
  exact rbytes_15 d s t mb mi ms md imm w h.2.1 hi
theorem rput_16 (d s t mb mi ms md imm : Int) (w : World) (hi : -9223372036854775808 ≤ imm ∧ imm ≤ 9223372036854775807) (h : chk 16 d s t mb mi ms md imm = true) :
    Calls Try.prog 47 #[.agg #[.int .i64 16, .int .i64 d, .int .i64 s, .int .i64 t, .int .i64 mb, .int .i64 mi, .int .i64 ms, .int .i64 md, .int .i64 imm]] w fun e w' => RetB w.heap.size (encL 16 d s t mb mi ms md imm) e w' ∧ Below w.heap.size w w' := by
  rw [chk_16] at h
  exact rbytes_16 d s t mb mi ms md imm w h.2.1 hi
theorem rput_17 (d s t mb mi ms md imm : Int) (w : World) (hi : -9223372036854775808 ≤ imm ∧ imm ≤ 9223372036854775807) (h : chk 17 d s t mb mi ms md imm = true) :
    Calls Try.prog 47 #[.agg #[.int .i64 17, .int .i64 d, .int .i64 s, .int .i64 t, .int .i64 mb, .int .i64 mi, .int .i64 ms, .int .i64 md, .int .i64 imm]] w fun e w' => RetB w.heap.size (encL 17 d s t mb mi ms md imm) e w' ∧ Below w.heap.size w w' := by
  rw [chk_17] at h
  exact rbytes_17 d s t mb mi ms md imm w h.2.1 hi
theorem rput_18 (d s t mb mi ms md imm : Int) (w : World) (hi : -9223372036854775808 ≤ imm ∧ imm ≤ 9223372036854775807) (h : chk 18 d s t mb mi ms md imm = true) :
    Calls Try.prog 47 #[.agg #[.int .i64 18, .int .i64 d, .int .i64 s, .int .i64 t, .int .i64 mb, .int .i64 mi, .int .i64 ms, .int .i64 md, .int .i64 imm]] w fun e w' => RetB w.heap.size (encL 18 d s t mb mi ms md imm) e w' ∧ Below w.heap.size w w' := by
  rw [chk_18] at h
  exact rbytes_18 d s t mb mi ms md imm w h.2.1 hi
theorem rput_19 (d s t mb mi ms md imm : Int) (w : World) (_hi : -9223372036854775808 ≤ imm ∧ imm ≤ 9223372036854775807) (h : chk 19 d s t mb mi ms md imm = true) :
    Calls Try.prog 47 #[.agg #[.int .i64 19, .int .i64 d, .int .i64 s, .int .i64 t, .int .i64 mb, .int .i64 mi, .int .i64 ms, .int .i64 md, .int .i64 imm]] w fun e w' => RetB w.heap.size (encL 19 d s t mb mi ms md imm) e w' ∧ Below w.heap.size w w' := by
  rw [chk_19] at h
  exact rbytes_19 d s t mb mi ms md imm w h.2.1 h.2.2.1 h.2.2.2.1
theorem rput_20 (d s t mb mi ms md imm : Int) (w : World) (_hi : -9223372036854775808 ≤ imm ∧ imm ≤ 9223372036854775807) (h : chk 20 d s t mb mi ms md imm = true) :
    Calls Try.prog 47 #[.agg #[.int .i64 20, .int .i64 d, .int .i64 s, .int .i64 t, .int .i64 mb, .int .i64 mi, .int .i64 ms, .int .i64 md, .int .i64 imm]] w fun e w' => RetB w.heap.size (encL 20 d s t mb mi ms md imm) e w' ∧ Below w.heap.size w w' := by
  rw [chk_20] at h
  exact rbytes_20 d s t mb mi ms md imm w h.2.1 h.2.2.1
theorem rput_21 (d s t mb mi ms md imm : Int) (w : World) (_hi : -9223372036854775808 ≤ imm ∧ imm ≤ 9223372036854775807) (h : chk 21 d s t mb mi ms md imm = true) :
    Calls Try.prog 47 #[.agg #[.int .i64 21, .int .i64 d, .int .i64 s, .int .i64 t, .int .i64 mb, .int .i64 mi, .int .i64 ms, .int .i64 md, .int .i64 imm]] w fun e w' => RetB w.heap.size (encL 21 d s t mb mi ms md imm) e w' ∧ Below w.heap.size w w' := by
  rw [chk_21] at h
  exact rbytes_21 d s t mb mi ms md imm w h.2.1 h.2.2.1
theorem rput_22 (d s t mb mi ms md imm : Int) (w : World) (_hi : -9223372036854775808 ≤ imm ∧ imm ≤ 9223372036854775807) (h : chk 22 d s t mb mi ms md imm = true) :
    Calls Try.prog 47 #[.agg #[.int .i64 22, .int .i64 d, .int .i64 s, .int .i64 t, .int .i64 mb, .int .i64 mi, .int .i64 ms, .int .i64 md, .int .i64 imm]] w fun e w' => RetB w.heap.size (encL 22 d s t mb mi ms md imm) e w' ∧ Below w.heap.size w w' := by
  rw [chk_22] at h
  exact rbytes_22 d s t mb mi ms md imm w h.2.1
theorem rput_23 (d s t mb mi ms md imm : Int) (w : World) (_hi : -9223372036854775808 ≤ imm ∧ imm ≤ 9223372036854775807) (h : chk 23 d s t mb mi ms md imm = true) :
    Calls Try.prog 47 #[.agg #[.int .i64 23, .int .i64 d, .int .i64 s, .int .i64 t, .int .i64 mb, .int .i64 mi, .int .i64 ms, .int .i64 md, .int .i64 imm]] w fun e w' => RetB w.heap.size (encL 23 d s t mb mi ms md imm) e w' ∧ Below w.heap.size w w' := by
  rw [chk_23] at h
  exact rbytes_23 d s t mb mi ms md imm w h.2.1
theorem rput_24 (d s t mb mi ms md imm : Int) (w : World) (_hi : -9223372036854775808 ≤ imm ∧ imm ≤ 9223372036854775807) (h : chk 24 d s t mb mi ms md imm = true) :
    Calls Try.prog 47 #[.agg #[.int .i64 24, .int .i64 d, .int .i64 s, .int .i64 t, .int .i64 mb, .int .i64 mi, .int .i64 ms, .int .i64 md, .int .i64 imm]] w fun e w' => RetB w.heap.size (encL 24 d s t mb mi ms md imm) e w' ∧ Below w.heap.size w w' := by
  rw [chk_24] at h
  exact rbytes_24 d s t mb mi ms md imm w h.2.1 h.1
theorem rput_25 (d s t mb mi ms md imm : Int) (w : World) (_hi : -9223372036854775808 ≤ imm ∧ imm ≤ 9223372036854775807) (h : chk 25 d s t mb mi ms md imm = true) :
    Calls Try.prog 47 #[.agg #[.int .i64 25, .int .i64 d, .int .i64 s, .int .i64 t, .int .i64 mb, .int .i64 mi, .int .i64 ms, .int .i64 md, .int .i64 imm]] w fun e w' => RetB w.heap.size (encL 25 d s t mb mi ms md imm) e w' ∧ Below w.heap.size w w' := by
  rw [chk_25] at h
  exact rbytes_25 d s t mb mi ms md imm w h.2.1 h.1
theorem rput_26 (d s t mb mi ms md imm : Int) (w : World) (_hi : -9223372036854775808 ≤ imm ∧ imm ≤ 9223372036854775807) (h : chk 26 d s t mb mi ms md imm = true) :
    Calls Try.prog 47 #[.agg #[.int .i64 26, .int .i64 d, .int .i64 s, .int .i64 t, .int .i64 mb, .int .i64 mi, .int .i64 ms, .int .i64 md, .int .i64 imm]] w fun e w' => RetB w.heap.size (encL 26 d s t mb mi ms md imm) e w' ∧ Below w.heap.size w w' := by
  rw [chk_26] at h
  exact rbytes_26 d s t mb mi ms md imm w h.2.1 h.2.2.1
theorem rput_27 (d s t mb mi ms md imm : Int) (w : World) (_hi : -9223372036854775808 ≤ imm ∧ imm ≤ 9223372036854775807) (h : chk 27 d s t mb mi ms md imm = true) :
    Calls Try.prog 47 #[.agg #[.int .i64 27, .int .i64 d, .int .i64 s, .int .i64 t, .int .i64 mb, .int .i64 mi, .int .i64 ms, .int .i64 md, .int .i64 imm]] w fun e w' => RetB w.heap.size (encL 27 d s t mb mi ms md imm) e w' ∧ Below w.heap.size w w' := by
  rw [chk_27] at h
  exact rbytes_27 d s t mb mi ms md imm w h.2.1 h.2.2.1
theorem rput_28 (d s t mb mi ms md imm : Int) (w : World) (_hi : -9223372036854775808 ≤ imm ∧ imm ≤ 9223372036854775807) (h : chk 28 d s t mb mi ms md imm = true) :
    Calls Try.prog 47 #[.agg #[.int .i64 28, .int .i64 d, .int .i64 s, .int .i64 t, .int .i64 mb, .int .i64 mi, .int .i64 ms, .int .i64 md, .int .i64 imm]] w fun e w' => RetB w.heap.size (encL 28 d s t mb mi ms md imm) e w' ∧ Below w.heap.size w w' := by
  rw [chk_28] at h
  exact rbytes_28 d s t mb mi ms md imm w h.2.2.1
theorem rput_29 (d s t mb mi ms md imm : Int) (w : World) (_hi : -9223372036854775808 ≤ imm ∧ imm ≤ 9223372036854775807) (h : chk 29 d s t mb mi ms md imm = true) :
    Calls Try.prog 47 #[.agg #[.int .i64 29, .int .i64 d, .int .i64 s, .int .i64 t, .int .i64 mb, .int .i64 mi, .int .i64 ms, .int .i64 md, .int .i64 imm]] w fun e w' => RetB w.heap.size (encL 29 d s t mb mi ms md imm) e w' ∧ Below w.heap.size w w' := by
  rw [chk_29] at h
  exact rbytes_29 d s t mb mi ms md imm w h.2.1
theorem rput_30 (d s t mb mi ms md imm : Int) (w : World) (hi : -9223372036854775808 ≤ imm ∧ imm ≤ 9223372036854775807) (_h : chk 30 d s t mb mi ms md imm = true) :
    Calls Try.prog 47 #[.agg #[.int .i64 30, .int .i64 d, .int .i64 s, .int .i64 t, .int .i64 mb, .int .i64 mi, .int .i64 ms, .int .i64 md, .int .i64 imm]] w fun e w' => RetB w.heap.size (encL 30 d s t mb mi ms md imm) e w' ∧ Below w.heap.size w w' := by
  exact rbytes_30 d s t mb mi ms md imm w hi
theorem rput_31 (d s t mb mi ms md imm : Int) (w : World) (hi : -9223372036854775808 ≤ imm ∧ imm ≤ 9223372036854775807) (_h : chk 31 d s t mb mi ms md imm = true) :
    Calls Try.prog 47 #[.agg #[.int .i64 31, .int .i64 d, .int .i64 s, .int .i64 t, .int .i64 mb, .int .i64 mi, .int .i64 ms, .int .i64 md, .int .i64 imm]] w fun e w' => RetB w.heap.size (encL 31 d s t mb mi ms md imm) e w' ∧ Below w.heap.size w w' := by
  exact rbytes_31 d s t mb mi ms md imm w hi
theorem rput_32 (d s t mb mi ms md imm : Int) (w : World) (hi : -9223372036854775808 ≤ imm ∧ imm ≤ 9223372036854775807) (_h : chk 32 d s t mb mi ms md imm = true) :
    Calls Try.prog 47 #[.agg #[.int .i64 32, .int .i64 d, .int .i64 s, .int .i64 t, .int .i64 mb, .int .i64 mi, .int .i64 ms, .int .i64 md, .int .i64 imm]] w fun e w' => RetB w.heap.size (encL 32 d s t mb mi ms md imm) e w' ∧ Below w.heap.size w w' := by
  exact rbytes_32 d s t mb mi ms md imm w hi
theorem rput_33 (d s t mb mi ms md imm : Int) (w : World) (_hi : -9223372036854775808 ≤ imm ∧ imm ≤ 9223372036854775807) (_h : chk 33 d s t mb mi ms md imm = true) :
    Calls Try.prog 47 #[.agg #[.int .i64 33, .int .i64 d, .int .i64 s, .int .i64 t, .int .i64 mb, .int .i64 mi, .int .i64 ms, .int .i64 md, .int .i64 imm]] w fun e w' => RetB w.heap.size (encL 33 d s t mb mi ms md imm) e w' ∧ Below w.heap.size w w' := by
  exact rbytes_33 d s t mb mi ms md imm w 
theorem rbytes_any (op d s t mb mi ms md imm : Int) (w : World) (hi : -9223372036854775808 ≤ imm ∧ imm ≤ 9223372036854775807) (h : chk op d s t mb mi ms md imm = true) :
    Calls Try.prog 47 #[.agg #[.int .i64 op, .int .i64 d, .int .i64 s, .int .i64 t, .int .i64 mb, .int .i64 mi, .int .i64 ms, .int .i64 md, .int .i64 imm]] w fun e w' => RetB w.heap.size (encL op d s t mb mi ms md imm) e w' ∧ Below w.heap.size w w' := by
  have hr := chk_range h
  have : op = 1 ∨ op = 2 ∨ op = 3 ∨ op = 4 ∨ op = 5 ∨ op = 6 ∨ op = 7 ∨ op = 8 ∨ op = 9 ∨ op = 10 ∨ op = 11 ∨ op = 12 ∨ op = 13 ∨ op = 14 ∨ op = 15 ∨ op = 16 ∨ op = 17 ∨ op = 18 ∨ op = 19 ∨ op = 20 ∨ op = 21 ∨ op = 22 ∨ op = 23 ∨ op = 24 ∨ op = 25 ∨ op = 26 ∨ op = 27 ∨ op = 28 ∨ op = 29 ∨ op = 30 ∨ op = 31 ∨ op = 32 ∨ op = 33 := by omega
  rcases this with rfl | rfl | rfl | rfl | rfl | rfl | rfl | rfl | rfl | rfl | rfl | rfl | rfl | rfl | rfl | rfl | rfl | rfl | rfl | rfl | rfl | rfl | rfl | rfl | rfl | rfl | rfl | rfl | rfl | rfl | rfl | rfl | rfl
  · exact rput_1 d s t mb mi ms md imm w hi h
  · exact rput_2 d s t mb mi ms md imm w hi h
  · exact rput_3 d s t mb mi ms md imm w hi h
  · exact rput_4 d s t mb mi ms md imm w hi h
  · exact rput_5 d s t mb mi ms md imm w hi h
  · exact rput_6 d s t mb mi ms md imm w hi h
  · exact rput_7 d s t mb mi ms md imm w hi h
  · exact rput_8 d s t mb mi ms md imm w hi h
  · exact rput_9 d s t mb mi ms md imm w hi h
  · exact rput_10 d s t mb mi ms md imm w hi h
  · exact rput_11 d s t mb mi ms md imm w hi h
  · exact rput_12 d s t mb mi ms md imm w hi h
  · exact rput_13 d s t mb mi ms md imm w hi h
  · exact rput_14 d s t mb mi ms md imm w hi h
  · exact rput_15 d s t mb mi ms md imm w hi h
  · exact rput_16 d s t mb mi ms md imm w hi h
  · exact rput_17 d s t mb mi ms md imm w hi h
  · exact rput_18 d s t mb mi ms md imm w hi h
  · exact rput_19 d s t mb mi ms md imm w hi h
  · exact rput_20 d s t mb mi ms md imm w hi h
  · exact rput_21 d s t mb mi ms md imm w hi h
  · exact rput_22 d s t mb mi ms md imm w hi h
  · exact rput_23 d s t mb mi ms md imm w hi h
  · exact rput_24 d s t mb mi ms md imm w hi h
  · exact rput_25 d s t mb mi ms md imm w hi h
  · exact rput_26 d s t mb mi ms md imm w hi h
  · exact rput_27 d s t mb mi ms md imm w hi h
  · exact rput_28 d s t mb mi ms md imm w hi h
  · exact rput_29 d s t mb mi ms md imm w hi h
  · exact rput_30 d s t mb mi ms md imm w hi h
  · exact rput_31 d s t mb mi ms md imm w hi h
  · exact rput_32 d s t mb mi ms md imm w hi h
  · exact rput_33 d s t mb mi ms md imm w hi h
set_option maxRecDepth 100000 in
theorem rinst_ok (op d s t mb mi ms md imm : Int) (w : World) (hi : -9223372036854775808 ≤ imm ∧ imm ≤ 9223372036854775807) (hk : chk op d s t mb mi ms md imm = true) :
    Calls Try.prog 31 #[.agg #[.int .i64 op, .int .i64 d, .int .i64 s, .int .i64 t, .int .i64 mb, .int .i64 mi, .int .i64 ms, .int .i64 md, .int .i64 imm]] w fun e w' => e = .returned (.tuple #[.string (strB (encL op d s t mb mi ms md imm)), .int .i64 0]) ∧ Below w.heap.size w w' := by
  go_enter Try.func31, Try.ntmps31
  go_wp2_with fail
  go_at_call 32
  refine (rcheck_any _ _ _ _ _ _ _ _ _ _).mono ?_
  rw [hk, show errOf true = 0 from rfl]
  rintro e w1 ⟨rfl, hb1⟩
  have hB1 : Below w.heap.size w w1 := (bal (Below.refl _ _) _).trans (hb1.mono (by simp))
  have hz : w.heap.size < w1.heap.size := by have := hb1.size; simp at this; omega
  have f0 : w1.cell? ⟨w.heap.size, 0, none⟩ = some (.int .i64 op) := cellk hb1 (by simp) (by go_simp)
  have f1 : w1.cell? ⟨w.heap.size, 1, none⟩ = some (.int .i64 d) := cellk hb1 (by simp) (by go_simp)
  have f2 : w1.cell? ⟨w.heap.size, 2, none⟩ = some (.int .i64 s) := cellk hb1 (by simp) (by go_simp)
  have f3 : w1.cell? ⟨w.heap.size, 3, none⟩ = some (.int .i64 t) := cellk hb1 (by simp) (by go_simp)
  have f4 : w1.cell? ⟨w.heap.size, 4, none⟩ = some (.int .i64 mb) := cellk hb1 (by simp) (by go_simp)
  have f5 : w1.cell? ⟨w.heap.size, 5, none⟩ = some (.int .i64 mi) := cellk hb1 (by simp) (by go_simp)
  have f6 : w1.cell? ⟨w.heap.size, 6, none⟩ = some (.int .i64 ms) := cellk hb1 (by simp) (by go_simp)
  have f7 : w1.cell? ⟨w.heap.size, 7, none⟩ = some (.int .i64 md) := cellk hb1 (by simp) (by go_simp)
  have f8 : w1.cell? ⟨w.heap.size, 8, none⟩ = some (.int .i64 imm) := cellk hb1 (by simp) (by go_simp)
  clear hb1
  go_wp2_with fail
  go_at_call 47
  refine (rbytes_any _ _ _ _ _ _ _ _ _ _ hi hk).mono ?_
  rintro e w2 ⟨⟨v, rfl, hv⟩, hb2⟩
  have hcv := conv_str hv
  have hB2 := hB1.trans (hb2.mono hB1.size)
  clear hv hb2
  go_wp2_with fail
  go_ret2
  exact ⟨rfl, hB2⟩
set_option maxRecDepth 100000 in
theorem rinst_err (op d s t mb mi ms md imm : Int) (w : World) (hk : chk op d s t mb mi ms md imm = false) :
    Calls Try.prog 31 #[.agg #[.int .i64 op, .int .i64 d, .int .i64 s, .int .i64 t, .int .i64 mb, .int .i64 mi, .int .i64 ms, .int .i64 md, .int .i64 imm]] w fun e w' => e = .returned (.tuple #[.string ⟨#[]⟩, .int .i64 2]) ∧ Below w.heap.size w w' := by
  go_enter Try.func31, Try.ntmps31
  go_wp2_with fail
  go_at_call 32
  refine (rcheck_any _ _ _ _ _ _ _ _ _ _).mono ?_
  rw [hk, show errOf false = 2 from rfl]
  rintro e w1 ⟨rfl, hb1⟩
  have hB1 : Below w.heap.size w w1 := (bal (Below.refl _ _) _).trans (hb1.mono (by simp))
  go_wp2_with fail
  go_ret2
  exact ⟨rfl, hB1⟩
theorem rinst_any (op d s t mb mi ms md imm : Int) (w : World) (hi : -9223372036854775808 ≤ imm ∧ imm ≤ 9223372036854775807) :
    Calls Try.prog 31 #[.agg #[.int .i64 op, .int .i64 d, .int .i64 s, .int .i64 t, .int .i64 mb, .int .i64 mi, .int .i64 ms, .int .i64 md, .int .i64 imm]] w fun e w' => e = .returned (.tuple #[.string (outE op d s t mb mi ms md imm), .int .i64 (errOf (chk op d s t mb mi ms md imm))]) ∧ Below w.heap.size w w' := by
  unfold outE
  cases hk : chk op d s t mb mi ms md imm
  · exact rinst_err op d s t mb mi ms md imm w hk
  · exact rinst_ok op d s t mb mi ms md imm w hi hk
theorem rinst_eq (op d s t mb mi ms md imm : Int) (B : ByteArray) (w : World) (hi : -9223372036854775808 ≤ imm ∧ imm ≤ 9223372036854775807) (k : Int) (hB : outE op d s t mb mi ms md imm = B) (hk : errOf (chk op d s t mb mi ms md imm) = k) :
    Calls Try.prog 31 #[.agg #[.int .i64 op, .int .i64 d, .int .i64 s, .int .i64 t, .int .i64 mb, .int .i64 mi, .int .i64 ms, .int .i64 md, .int .i64 imm]] w fun e w' => e = .returned (.tuple #[.string B, .int .i64 k]) ∧ Below w.heap.size w w' := by
  rw [← hB, ← hk]; exact rinst_any op d s t mb mi ms md imm w hi
theorem catO_zero (l : List Ins) : catO (l.take 0) = ⟨#[]⟩ := rfl
attribute [local irreducible] outE chk outs catO allOk
set_option maxRecDepth 100000 in
set_option maxHeartbeats 2000000 in
theorem rall_any (b off cap : Nat) (l : List Ins) (w : World) (hl : l.length ≤ 1000) (hok : ∀ x ∈ l, x.ok) (hc : InsRow w b off l) (hb : b < w.heap.size) :
    Calls Try.prog 25 #[.slice (some ⟨b, off, none⟩) l.length cap] w fun e w' => e = .returned (.tuple #[.string (outs l), .int .i64 (errOf (allOk l))]) ∧ Below w.heap.size w w' := by
  go_enter Try.func25, Try.ntmps25
  go_wp2_with fail
  go_loopw [4, 5] (fun v i wr => ∃ (k : Nat), k ≤ l.length ∧ i = .int .i64 k ∧ Hid (allOk (l.take k) = true) ∧ v = .string (catO (l.take k)) ∧ Below w.heap.size w wr) (fun _ i _ => l.length - (intOf i).toNat)
  case atStart => exact ⟨0, by omega, rfl, start_ok l, by rw [catO_zero], Below.refl _ _⟩
  case round =>
    obtain ⟨k, hk, rfl, ho, rfl, hbw⟩ := hrel
    by_cases hlt : k < l.length
    · obtain ⟨x, hx⟩ : ∃ x, l[k]? = some x := ⟨l[k], List.getElem?_eq_getElem hlt⟩
      have hxo := hok x (List.mem_of_getElem? hx)
      have hcx := hc k x hx
      have hc' := hidd hc
      have hx' := hidd hx
      clear hc hx
      obtain ⟨op, d, s, t, mb, mi, ms, md, imm⟩ := x
      have f0 : wr.cell? ⟨b, off + k * 9, none⟩ = some (.int .i64 op) := (hbw.cell (p := ⟨b, off + k * 9, none⟩) hb).trans (hcx 0 _ rfl)
      have f1 : wr.cell? ⟨b, off + k * 9 + 1, none⟩ = some (.int .i64 d) := (hbw.cell (p := ⟨b, off + k * 9 + 1, none⟩) hb).trans (hcx 1 _ rfl)
      have f2 : wr.cell? ⟨b, off + k * 9 + 2, none⟩ = some (.int .i64 s) := (hbw.cell (p := ⟨b, off + k * 9 + 2, none⟩) hb).trans (hcx 2 _ rfl)
      have f3 : wr.cell? ⟨b, off + k * 9 + 3, none⟩ = some (.int .i64 t) := (hbw.cell (p := ⟨b, off + k * 9 + 3, none⟩) hb).trans (hcx 3 _ rfl)
      have f4 : wr.cell? ⟨b, off + k * 9 + 4, none⟩ = some (.int .i64 mb) := (hbw.cell (p := ⟨b, off + k * 9 + 4, none⟩) hb).trans (hcx 4 _ rfl)
      have f5 : wr.cell? ⟨b, off + k * 9 + 5, none⟩ = some (.int .i64 mi) := (hbw.cell (p := ⟨b, off + k * 9 + 5, none⟩) hb).trans (hcx 5 _ rfl)
      have f6 : wr.cell? ⟨b, off + k * 9 + 6, none⟩ = some (.int .i64 ms) := (hbw.cell (p := ⟨b, off + k * 9 + 6, none⟩) hb).trans (hcx 6 _ rfl)
      have f7 : wr.cell? ⟨b, off + k * 9 + 7, none⟩ = some (.int .i64 md) := (hbw.cell (p := ⟨b, off + k * 9 + 7, none⟩) hb).trans (hcx 7 _ rfl)
      have f8 : wr.cell? ⟨b, off + k * 9 + 8, none⟩ = some (.int .i64 imm) := (hbw.cell (p := ⟨b, off + k * 9 + 8, none⟩) hb).trans (hcx 8 _ rfl)
      clear hcx
      go_wp2_with fail
      go_at_call 31
      have hsz := hbw.size
      cases hk' : chk op d s t mb mi ms md imm
      · refine (rinst_eq op d s t mb mi ms md imm _ _ hxo.2 2 (out_bad' op d s t mb mi ms md imm hk') (by rw [hk']; rfl)).mono ?_
        rintro e w1 ⟨rfl, hb1⟩
        have hB : Below w.heap.size w w1 := hbw.trans (hb1.mono hsz)
        have hall := hidd (allOk_bad l k op d s t mb mi ms md imm hx'.out hk')
        clear hk' hb1
        go_wp2_with fail
        go_ret2
        refine ⟨?_, hB⟩
        rw [outs_bad l hall.out, hall.out]; rfl
      · refine (rinst_eq op d s t mb mi ms md imm _ _ hxo.2 0 rfl (by rw [hk']; rfl)).mono ?_
        rintro e w1 ⟨rfl, hb1⟩
        have hB : Below w.heap.size w w1 := hbw.trans (hb1.mono hsz)
        have hcat := hidd (catO_snoc' l k op d s t mb mi ms md imm hx'.out)
        have hall := hidd (allOk_snoc l k op d s t mb mi ms md imm hx'.out ho.out hk')
        have hbd : (catO (l.take k)).size + (outE op d s t mb mi ms md imm).size ≤ 100000 := by
          have h1 := catO_size (l.take k)
          have h3 := out_size' op d s t mb mi ms md imm
          rw [List.length_take] at h1
          omega
        clear hk' hb1 hbw ho
        go_wp2_with fail
        go_roundw
        case rel => exact ⟨k + 1, by omega, by go_num, hall, by rw [hcat.out], hB⟩
        case measure => simp [intOf]; omega
    · have e : k = l.length := by omega
      subst e
      have ho' := ho.out
      rw [List.take_length] at ho'
      have hf : Hid (catO (l.take l.length) = outs l ∧ errOf (allOk l) = 0) := ⟨by rw [List.take_length, outs_ok l ho'], by rw [ho']; rfl⟩
      clear ho' ho hc
      go_wp2
      go_ret2
      exact ⟨by rw [hf.out.2, ← hf.out.1]; rfl, hbw⟩
end Go.Proofs.Ytbcaelhchmoigaa

/- A row of instructions as an argument, opened. Conditions: none. -/
namespace Go.Proofs.Ytbcaelhchmoigaa
open Go.ChangeShapes Go.WideShapes Go.ChangeAt Go.RowKit

theorem trod_inst {H : Type} {enc : TypeId × Value → H} {W : World} {base : Nat} {sp : Nat → Bool} {held : Bool} {fuel : Nat} {cs : List Value} {x : DataW H × List MemPlace} (hl : cs.length = 9)
    (hf : DataW.trod enc Try.prog W base sp held fuel 35 cs = some x) : ∃ y : Ins, cs = y.vs ∧ y.ok := by
  have hc3 : Try.prog.cellsOf 3 = 1 := by kernel_rfl
  have hc2 : Try.prog.cellsOf 2 = 1 := by kernel_rfl
  have hcm : Try.prog.cellsOf 33 = 4 := by kernel_rfl
  obtain ⟨a0, h0, w0⟩ := field_int Try.underlying35 hf 0 0 rfl Try.underlying3 hc3
  obtain ⟨a1, h1, w1⟩ := field_int Try.underlying35 hf 1 1 rfl Try.underlying3 hc3
  obtain ⟨a2, h2, w2⟩ := field_int Try.underlying35 hf 2 2 rfl Try.underlying3 hc3
  obtain ⟨a3, h3, w3⟩ := field_int Try.underlying35 hf 3 3 rfl Try.underlying3 hc3
  obtain ⟨n, y, hm⟩ := field_sub Try.underlying35 hf 4 4 4 rfl hcm
  obtain ⟨a8, h8, w8⟩ := field_int Try.underlying35 hf 5 8 rfl Try.underlying2 hc2
  obtain ⟨a4, h4, w4⟩ := field_int Try.underlying33 hm 0 0 rfl Try.underlying3 hc3
  obtain ⟨a5, h5, w5⟩ := field_int Try.underlying33 hm 1 1 rfl Try.underlying3 hc3
  obtain ⟨a6, h6, w6⟩ := field_int Try.underlying33 hm 2 2 rfl Try.underlying3 hc3
  obtain ⟨a7, h7, w7⟩ := field_int Try.underlying33 hm 3 3 rfl Try.underlying2 hc2
  clear hf hm
  match cs, hl with
  | [c0, c1, c2, c3, c4, c5, c6, c7, c8], _ =>
    simp at h0 h1 h2 h3 h4 h5 h6 h7 h8
    subst h0 h1 h2 h3 h4 h5 h6 h7 h8
    exact ⟨⟨a0, a1, a2, a3, a4, a5, a6, a7, a8⟩, rfl, int_of_wf w7, int_of_wf w8⟩
/-- What an argument of type []api.Inst is. -/
def Insts (W : World) (v : Value) (l : List Ins) : Prop :=
  (∀ x ∈ l, x.ok) ∧ ((l = [] ∧ ∃ a cap, v = .slice a 0 cap) ∨ ∃ b off cap, v = .slice (some ⟨b, off, none⟩) l.length cap ∧ InsRow W b off l ∧ b < W.heap.size)
theorem pick_list {α : Type} (P : Nat → α → Prop) : ∀ n : Nat, (∀ i, i < n → ∃ y, P i y) → ∃ l : List α, l.length = n ∧ ∀ i y, l[i]? = some y → P i y
  | 0, _ => ⟨[], rfl, fun i y h => by simp at h⟩
  | n + 1, h => by
    obtain ⟨l, hl, hp⟩ := pick_list P n (fun i hi => h i (by omega))
    obtain ⟨y, hy⟩ := h n (by omega)
    refine ⟨l ++ [y], by simp [hl], fun i z hz => ?_⟩
    rcases Nat.lt_or_ge i n with hlt | hge
    · rw [List.getElem?_append_left (by omega)] at hz; exact hp i z hz
    · rw [List.getElem?_append_right (by omega)] at hz
      have e : i = n := by
        rcases Nat.lt_or_ge i (n + 1) with h1 | h1
        · omega
        · rw [List.getElem?_eq_none (by simp; omega)] at hz; simp at hz
      subst e
      rw [hl, Nat.sub_self] at hz
      simp at hz
      subst hz; exact hy
theorem add_at (b off n : Nat) : (⟨b, off, none⟩ : Addr).add n = ⟨b, off + n, none⟩ := by unfold Addr.add; split <;> simp_all
set_option maxRecDepth 100000 in
theorem open_insts {H : Type} {enc : TypeId × Value → H} {W : World} {base b : Nat} {sp : Nat → Bool} {held : Bool} {r : Reach} {v : Value} {d : DataW H} {ps : List MemPlace} (hok : Value.okWide Try.prog W r b 51 v)
    (h : DataW.Trod enc Try.prog W base sp held 51 v d ps) : ∃ l : List Ins, Insts W v l := by
  obtain ⟨a, len, cap, rfl⟩ := okWide_slice Try.underlying51 hok
  obtain ⟨fuel, hf⟩ := h
  have hc : Try.prog.cellsOf 35 = 9 := by kernel_rfl
  rcases DataW.trod_slice Try.underlying51 hf with ⟨h0, _⟩ | ⟨a', len', cap', elems, rest, n, _, hcs, _, hb, hl, hm, hlen, hel, hsp, hns⟩
  · have e : (.slice a len cap : Value) = .slice none 0 0 := by simpa [Value.cells] using h0
    cases e
    exact ⟨[], fun x hx => by simp at hx, .inl ⟨rfl, none, 0, rfl⟩⟩
  · have e : (.slice a len cap : Value) = .slice (some a') len' cap' := by simpa [Value.cells] using hcs
    cases e
    rw [hc] at hel
    have each : ∀ i, i < len → ∃ y : Ins, y.ok ∧ ∀ k v, y.vs[k]? = some v → W.cell? ((a'.add (i * 9)).add k) = some v := by
      intro i hi
      have h1 := hel i hi
      rw [List.getElem?_eq_getElem (by omega), Option.bind_eq_some_iff] at h1
      obtain ⟨cs, hcs', hy⟩ := h1
      obtain ⟨_, hlen9, hcell⟩ := World.cells?_some hcs'
      obtain ⟨y, rfl, hyo⟩ := trod_inst hlen9 hy
      refine ⟨y, hyo, fun k v hk => ?_⟩
      have hk9 : k < 9 := by
        rcases Nat.lt_or_ge k 9 with h | h
        · exact h
        · rw [List.getElem?_eq_none (by rw [hlen9]; exact h)] at hk; simp at hk
      rw [hcell k hk9]; exact hk
    obtain ⟨l, hll, hp⟩ := pick_list _ len each
    refine ⟨l, fun x hx => ?_, ?_⟩
    · obtain ⟨i, hi⟩ := List.getElem?_of_mem hx
      exact (hp i x hi).1
    · cases len with
      | zero => exact .inl ⟨List.length_eq_zero_iff.1 hll, _, _, rfl⟩
      | succ m =>
        right
        obtain ⟨b', off, spot⟩ := a'
        obtain ⟨y, hy, hy2⟩ := each 0 (by omega)
        have h0 : W.cell? ⟨b', off, spot⟩ = some (.int .i64 y.op) := by simpa [Addr.add] using hy2 0 _ rfl
        have hs : spot = none := World.cell?_spot h0
        subst hs
        refine ⟨b', off, cap, by rw [hll], ?_, ?_⟩
        · intro j x hx k v hv
          have := (hp j x hx).2 k v hv
          rwa [add_at, add_at] at this
        · rcases Nat.lt_or_ge b' W.heap.size with h | h
          · exact h
          · unfold World.cell? at h0
            rw [Array.getElem?_eq_none h] at h0; simp at h0
end Go.Proofs.Ytbcaelhchmoigaa
