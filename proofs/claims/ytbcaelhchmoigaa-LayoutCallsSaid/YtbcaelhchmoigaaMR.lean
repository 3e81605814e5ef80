import Derived.Test.YtbcaelhchmoigaaML
import Derived.Test.YtbcaelhchmoigaaMRB
import Derived.Test.YtbcaelhchmoigaaME
import Derived.Test.YtbcaelhchmoigaaFrame
import Derived.DataReads
set_option maxRecDepth 100000
set_option linter.unusedVariables false
set_option linter.unusedSimpArgs false
namespace Go.Proofs.Ytbcaelhchmoigaa
open Go.RowKit Calm
def RputS (op : Int) : Prop := ∀ (d s t mb mi ms md imm : Int) (w : World) (_hi : -9223372036854775808 ≤ imm ∧ imm ≤ 9223372036854775807) (h : chk op d s t mb mi ms md imm = true), Calls Try.prog 47 #[.agg #[.int .i64 op, .int .i64 d, .int .i64 s, .int .i64 t, .int .i64 mb, .int .i64 mi, .int .i64 ms, .int .i64 md, .int .i64 imm]] w fun e w' => RetB w.heap.size (encL op d s t mb mi ms md imm) e w' ∧ Below w.heap.size w w'
theorem rput_1 : RputS 1 := by
  intro d s t mb mi ms md imm w _hi h
  rw [chk_1] at h
  exact rbytes_1 d s t mb mi ms md imm w h.2.1 h.2.2.1
theorem rput_2 (d s t mb mi ms md imm : Int) (w : World) (hi : -9223372036854775808 ≤ imm ∧ imm ≤ 9223372036854775807) (h : chk 2 d s t mb mi ms md imm = true) :
    Calls Try.prog 47 #[.agg #[.int .i64 2, .int .i64 d, .int .i64 s, .int .i64 t, .int .i64 mb, .int .i64 mi, .int .i64 ms, .int .i64 md, .int .i64 imm]] w fun e w' => RetB w.heap.size (encL 2 d s t mb mi ms md imm) e w' ∧ Below w.heap.size w w' := by
  rw [chk_2] at h
  exact rbytes_2 d s t mb mi ms md imm w h.2.1 hi
theorem rput_3 : RputS 3 := by
  intro d s t mb mi ms md imm w _hi h
  rw [chk_3] at h
  exact rbytes_3 d s t mb mi ms md imm w h.2.1 h.2.2.2.2
theorem rput_4 : RputS 4 := by
  intro d s t mb mi ms md imm w _hi h
  rw [chk_4] at h
  exact rbytes_4 d s t mb mi ms md imm w h.2.2.1 h.2.2.2.2
theorem rput_5 : RputS 5 := by
  intro d s t mb mi ms md imm w _hi h
  rw [chk_5] at h
  exact rbytes_5 d s t mb mi ms md imm w h.2.1 h.2.2.2.2
theorem rput_6 : RputS 6 := by
  intro d s t mb mi ms md imm w _hi h
  rw [chk_6] at h
  exact rbytes_6 d s t mb mi ms md imm w h.2.1 h.2.2.1
theorem rput_7 : RputS 7 := by
  intro d s t mb mi ms md imm w _hi h
  rw [chk_7] at h
  exact rbytes_7 d s t mb mi ms md imm w h.2.1 h.2.2.1
theorem rput_8 : RputS 8 := by
  intro d s t mb mi ms md imm w _hi h
  rw [chk_8] at h
  exact rbytes_8 d s t mb mi ms md imm w h.2.1 h.2.2.1
theorem rput_9 : RputS 9 := by
  intro d s t mb mi ms md imm w _hi h
  rw [chk_9] at h
  exact rbytes_9 d s t mb mi ms md imm w h.2.1 h.2.2.1
theorem rput_10 : RputS 10 := by
  intro d s t mb mi ms md imm w _hi h
  rw [chk_10] at h
  exact rbytes_10 d s t mb mi ms md imm w h.2.1 h.2.2.1
theorem rput_11 : RputS 11 := by
  intro d s t mb mi ms md imm w _hi h
  rw [chk_11] at h
  exact rbytes_11 d s t mb mi ms md imm w h.2.1 h.2.2.1
theorem rput_12 : RputS 12 := by
  intro d s t mb mi ms md imm w _hi h
  rw [chk_12] at h
  exact rbytes_12 d s t mb mi ms md imm w h.2.1 h.2.2.1
theorem rput_13 : RputS 13 := by
  intro d s t mb mi ms md imm w _hi h
  rw [chk_13] at h
  exact rbytes_13 d s t mb mi ms md imm w h.2.1 h.2.2.1
theorem rput_14 : RputS 14 := by
  intro d s t mb mi ms md imm w _hi h
  rw [chk_14] at h
  exact rbytes_14 d s t mb mi ms md imm w h.2.1 h.2.2.1
theorem rput_15 (d s t mb mi ms md imm : Int) (w : World) (hi : -9223372036854775808 ≤ imm ∧ imm ≤ 9223372036854775807) (h : chk 15 d s t mb mi ms md imm = true) :
    Calls Try.prog 47 #[.agg #[.int .i64 15, .int .i64 d, .int .i64 s, .int .i64 t, .int .i64 mb, .int .i64 mi, .int .i64 ms, .int .i64 md, .int .i64 imm]] w fun e w' => RetB w.heap.size (encL 15 d s t mb mi ms md imm) e w' ∧ Below w.heap.size w w' := by
  rw [chk_15] at h
  exact rbytes_15 d s t mb mi ms md imm w h.2.1 hi
theorem rput_16 (d s t mb mi ms md imm : Int) (w : World) (hi : -9223372036854775808 ≤ imm ∧ imm ≤ 9223372036854775807) (h : chk 16 d s t mb mi ms md imm = true) :
    Calls Try.prog 47 #[.agg #[.int .i64 16, .int .i64 d, .int .i64 s, .int .i64 t, .int .i64 mb, .int .i64 mi, .int .i64 ms, .int .i64 md, .int .i64 imm]] w fun e w' => RetB w.heap.size (encL 16 d s t mb mi ms md imm) e w' ∧ Below w.heap.size w w' := by
  rw [chk_16] at h
  exact rbytes_16 d s t mb mi ms md imm w h.2.1 hi
theorem rput_17 (d s t mb mi ms md imm : Int) (w : World) (hi : -9223372036854775808 ≤ imm ∧ imm ≤ 9223372036854775807) (h : chk 17 d s t mb mi ms md imm = true) :
    Calls Try.prog 47 #[.agg #[.int .i64 17, .int .i64 d, .int .i64 s, .int .i64 t, .int .i64 mb, .int .i64 mi, .int .i64 ms, .int .i64 md, .int .i64 imm]] w fun e w' => RetB w.heap.size (encL 17 d s t mb mi ms md imm) e w' ∧ Below w.heap.size w w' := by
  rw [chk_17] at h
  exact rbytes_17 d s t mb mi ms md imm w h.2.1 hi
theorem rput_18 (d s t mb mi ms md imm : Int) (w : World) (hi : -9223372036854775808 ≤ imm ∧ imm ≤ 9223372036854775807) (h : chk 18 d s t mb mi ms md imm = true) :
    Calls Try.prog 47 #[.agg #[.int .i64 18, .int .i64 d, .int .i64 s, .int .i64 t, .int .i64 mb, .int .i64 mi, .int .i64 ms, .int .i64 md, .int .i64 imm]] w fun e w' => RetB w.heap.size (encL 18 d s t mb mi ms md imm) e w' ∧ Below w.heap.size w w' := by
  rw [chk_18] at h
  exact rbytes_18 d s t mb mi ms md imm w h.2.1 hi
theorem rput_19 : RputS 19 := by
  intro d s t mb mi ms md imm w _hi h
  rw [chk_19] at h
  exact rbytes_19 d s t mb mi ms md imm w h.2.1 h.2.2.1 h.2.2.2.1
theorem rput_20 : RputS 20 := by
  intro d s t mb mi ms md imm w _hi h
  rw [chk_20] at h
  exact rbytes_20 d s t mb mi ms md imm w h.2.1 h.2.2.1
theorem rput_21 : RputS 21 := by
  intro d s t mb mi ms md imm w _hi h
  rw [chk_21] at h
  exact rbytes_21 d s t mb mi ms md imm w h.2.1 h.2.2.1
theorem rput_22 : RputS 22 := by
  intro d s t mb mi ms md imm w _hi h
  rw [chk_22] at h
  exact rbytes_22 d s t mb mi ms md imm w h.2.1
theorem rput_23 : RputS 23 := by
  intro d s t mb mi ms md imm w _hi h
  rw [chk_23] at h
  exact rbytes_23 d s t mb mi ms md imm w h.2.1
theorem rput_24 : RputS 24 := by
  intro d s t mb mi ms md imm w _hi h
  rw [chk_24] at h
  exact rbytes_24 d s t mb mi ms md imm w h.2.1 h.1
theorem rput_25 : RputS 25 := by
  intro d s t mb mi ms md imm w _hi h
  rw [chk_25] at h
  exact rbytes_25 d s t mb mi ms md imm w h.2.1 h.1
theorem rput_26 : RputS 26 := by
  intro d s t mb mi ms md imm w _hi h
  rw [chk_26] at h
  exact rbytes_26 d s t mb mi ms md imm w h.2.1 h.2.2.1
theorem rput_27 : RputS 27 := by
  intro d s t mb mi ms md imm w _hi h
  rw [chk_27] at h
  exact rbytes_27 d s t mb mi ms md imm w h.2.1 h.2.2.1
theorem rput_28 : RputS 28 := by
  intro d s t mb mi ms md imm w _hi h
  rw [chk_28] at h
  exact rbytes_28 d s t mb mi ms md imm w h.2.2.1
theorem rput_29 : RputS 29 := by
  intro d s t mb mi ms md imm w _hi h
  rw [chk_29] at h
  exact rbytes_29 d s t mb mi ms md imm w h.2.1
theorem rput_30 (d s t mb mi ms md imm : Int) (w : World) (hi : -9223372036854775808 ≤ imm ∧ imm ≤ 9223372036854775807) (_h : chk 30 d s t mb mi ms md imm = true) :
    Calls Try.prog 47 #[.agg #[.int .i64 30, .int .i64 d, .int .i64 s, .int .i64 t, .int .i64 mb, .int .i64 mi, .int .i64 ms, .int .i64 md, .int .i64 imm]] w fun e w' => RetB w.heap.size (encL 30 d s t mb mi ms md imm) e w' ∧ Below w.heap.size w w' := by
  exact rbytes_30 d s t mb mi ms md imm w hi
theorem rput_31 (d s t mb mi ms md imm : Int) (w : World) (hi : -9223372036854775808 ≤ imm ∧ imm ≤ 9223372036854775807) (_h : chk 31 d s t mb mi ms md imm = true) :
    Calls Try.prog 47 #[.agg #[.int .i64 31, .int .i64 d, .int .i64 s, .int .i64 t, .int .i64 mb, .int .i64 mi, .int .i64 ms, .int .i64 md, .int .i64 imm]] w fun e w' => RetB w.heap.size (encL 31 d s t mb mi ms md imm) e w' ∧ Below w.heap.size w w' := by
  exact rbytes_31 d s t mb mi ms md imm w hi
theorem rput_32 (d s t mb mi ms md imm : Int) (w : World) (hi : -9223372036854775808 ≤ imm ∧ imm ≤ 9223372036854775807) (_h : chk 32 d s t mb mi ms md imm = true) :
    Calls Try.prog 47 #[.agg #[.int .i64 32, .int .i64 d, .int .i64 s, .int .i64 t, .int .i64 mb, .int .i64 mi, .int .i64 ms, .int .i64 md, .int .i64 imm]] w fun e w' => RetB w.heap.size (encL 32 d s t mb mi ms md imm) e w' ∧ Below w.heap.size w w' := by
  exact rbytes_32 d s t mb mi ms md imm w hi
theorem rput_33 (d s t mb mi ms md imm : Int) (w : World) (_hi : -9223372036854775808 ≤ imm ∧ imm ≤ 9223372036854775807) (_h : chk 33 d s t mb mi ms md imm = true) :
    Calls Try.prog 47 #[.agg #[.int .i64 33, .int .i64 d, .int .i64 s, .int .i64 t, .int .i64 mb, .int .i64 mi, .int .i64 ms, .int .i64 md, .int .i64 imm]] w fun e w' => RetB w.heap.size (encL 33 d s t mb mi ms md imm) e w' ∧ Below w.heap.size w w' := by
  exact rbytes_33 d s t mb mi ms md imm w
theorem rbytes_any (op d s t mb mi ms md imm : Int) (w : World) (hi : -9223372036854775808 ≤ imm ∧ imm ≤ 9223372036854775807) (h : chk op d s t mb mi ms md imm = true) :
    Calls Try.prog 47 #[.agg #[.int .i64 op, .int .i64 d, .int .i64 s, .int .i64 t, .int .i64 mb, .int .i64 mi, .int .i64 ms, .int .i64 md, .int .i64 imm]] w fun e w' => RetB w.heap.size (encL op d s t mb mi ms md imm) e w' ∧ Below w.heap.size w w' := by
  have hr := chk_range h
  have : op = 1 ∨ op = 2 ∨ op = 3 ∨ op = 4 ∨ op = 5 ∨ op = 6 ∨ op = 7 ∨ op = 8 ∨ op = 9 ∨ op = 10 ∨ op = 11 ∨ op = 12 ∨ op = 13 ∨ op = 14 ∨ op = 15 ∨ op = 16 ∨ op = 17 ∨ op = 18 ∨ op = 19 ∨ op = 20 ∨ op = 21 ∨ op = 22 ∨ op = 23 ∨ op = 24 ∨ op = 25 ∨ op = 26 ∨ op = 27 ∨ op = 28 ∨ op = 29 ∨ op = 30 ∨ op = 31 ∨ op = 32 ∨ op = 33 := by omega
  rcases this with rfl | rfl | rfl | rfl | rfl | rfl | rfl | rfl | rfl | rfl | rfl | rfl | rfl | rfl | rfl | rfl | rfl | rfl | rfl | rfl | rfl | rfl | rfl | rfl | rfl | rfl | rfl | rfl | rfl | rfl | rfl | rfl | rfl
  · exact rput_1 d s t mb mi ms md imm w hi h
  · exact rput_2 d s t mb mi ms md imm w hi h
  · exact rput_3 d s t mb mi ms md imm w hi h
  · exact rput_4 d s t mb mi ms md imm w hi h
  · exact rput_5 d s t mb mi ms md imm w hi h
  · exact rput_6 d s t mb mi ms md imm w hi h
  · exact rput_7 d s t mb mi ms md imm w hi h
  · exact rput_8 d s t mb mi ms md imm w hi h
  · exact rput_9 d s t mb mi ms md imm w hi h
  · exact rput_10 d s t mb mi ms md imm w hi h
  · exact rput_11 d s t mb mi ms md imm w hi h
  · exact rput_12 d s t mb mi ms md imm w hi h
  · exact rput_13 d s t mb mi ms md imm w hi h
  · exact rput_14 d s t mb mi ms md imm w hi h
  · exact rput_15 d s t mb mi ms md imm w hi h
  · exact rput_16 d s t mb mi ms md imm w hi h
  · exact rput_17 d s t mb mi ms md imm w hi h
  · exact rput_18 d s t mb mi ms md imm w hi h
  · exact rput_19 d s t mb mi ms md imm w hi h
  · exact rput_20 d s t mb mi ms md imm w hi h
  · exact rput_21 d s t mb mi ms md imm w hi h
  · exact rput_22 d s t mb mi ms md imm w hi h
  · exact rput_23 d s t mb mi ms md imm w hi h
  · exact rput_24 d s t mb mi ms md imm w hi h
  · exact rput_25 d s t mb mi ms md imm w hi h
  · exact rput_26 d s t mb mi ms md imm w hi h
  · exact rput_27 d s t mb mi ms md imm w hi h
  · exact rput_28 d s t mb mi ms md imm w hi h
  · exact rput_29 d s t mb mi ms md imm w hi h
  · exact rput_30 d s t mb mi ms md imm w hi h
  · exact rput_31 d s t mb mi ms md imm w hi h
  · exact rput_32 d s t mb mi ms md imm w hi h
  · exact rput_33 d s t mb mi ms md imm w hi h
theorem rinst_ok (op d s t mb mi ms md imm : Int) (w : World) (hi : -9223372036854775808 ≤ imm ∧ imm ≤ 9223372036854775807) (hk : chk op d s t mb mi ms md imm = true) :
    Calls Try.prog 31 #[.agg #[.int .i64 op, .int .i64 d, .int .i64 s, .int .i64 t, .int .i64 mb, .int .i64 mi, .int .i64 ms, .int .i64 md, .int .i64 imm]] w fun e w' => e = .returned (.tuple #[.string (strB (encL op d s t mb mi ms md imm)), .int .i64 0]) ∧ Below w.heap.size w w' := by
  go_enter Try.func31, Try.ntmps31
  go_wp2_with fail
  go_at_call 32
  refine (rcheck_any _ _ _ _ _ _ _ _ _ _).mono ?_
  rw [hk, show errOf true = 0 from rfl]
  rintro e w1 ⟨rfl, hb1⟩
  have hB1 : Below w.heap.size w w1 := (bal (Below.refl _ _) _).trans (hb1.mono (by simp))
  have hz : w.heap.size < w1.heap.size := by have := hb1.size; simp at this; omega
  have f0 : w1.cell? ⟨w.heap.size, 0, none⟩ = some (.int .i64 op) := cellk hb1 (by simp) (by go_simp)
  have f1 : w1.cell? ⟨w.heap.size, 1, none⟩ = some (.int .i64 d) := cellk hb1 (by simp) (by go_simp)
  have f2 : w1.cell? ⟨w.heap.size, 2, none⟩ = some (.int .i64 s) := cellk hb1 (by simp) (by go_simp)
  have f3 : w1.cell? ⟨w.heap.size, 3, none⟩ = some (.int .i64 t) := cellk hb1 (by simp) (by go_simp)
  have f4 : w1.cell? ⟨w.heap.size, 4, none⟩ = some (.int .i64 mb) := cellk hb1 (by simp) (by go_simp)
  have f5 : w1.cell? ⟨w.heap.size, 5, none⟩ = some (.int .i64 mi) := cellk hb1 (by simp) (by go_simp)
  have f6 : w1.cell? ⟨w.heap.size, 6, none⟩ = some (.int .i64 ms) := cellk hb1 (by simp) (by go_simp)
  have f7 : w1.cell? ⟨w.heap.size, 7, none⟩ = some (.int .i64 md) := cellk hb1 (by simp) (by go_simp)
  have f8 : w1.cell? ⟨w.heap.size, 8, none⟩ = some (.int .i64 imm) := cellk hb1 (by simp) (by go_simp)
  clear hb1
  go_wp2_with fail
  go_at_call 47
  refine (rbytes_any _ _ _ _ _ _ _ _ _ _ hi hk).mono ?_
  rintro e w2 ⟨⟨v, rfl, hv⟩, hb2⟩
  have hcv := conv_str hv
  have hB2 := hB1.trans (hb2.mono hB1.size)
  clear hv hb2
  go_wp2_with fail
  go_ret2
  exact ⟨rfl, hB2⟩
theorem rinst_err (op d s t mb mi ms md imm : Int) (w : World) (hk : chk op d s t mb mi ms md imm = false) :
    Calls Try.prog 31 #[.agg #[.int .i64 op, .int .i64 d, .int .i64 s, .int .i64 t, .int .i64 mb, .int .i64 mi, .int .i64 ms, .int .i64 md, .int .i64 imm]] w fun e w' => e = .returned (.tuple #[.string ⟨#[]⟩, .int .i64 2]) ∧ Below w.heap.size w w' := by
  go_enter Try.func31, Try.ntmps31
  go_wp2_with fail
  go_at_call 32
  refine (rcheck_any _ _ _ _ _ _ _ _ _ _).mono ?_
  rw [hk, show errOf false = 2 from rfl]
  rintro e w1 ⟨rfl, hb1⟩
  have hB1 : Below w.heap.size w w1 := (bal (Below.refl _ _) _).trans (hb1.mono (by simp))
  go_wp2_with fail
  go_ret2
  exact ⟨rfl, hB1⟩
theorem rinst_any (op d s t mb mi ms md imm : Int) (w : World) (hi : -9223372036854775808 ≤ imm ∧ imm ≤ 9223372036854775807) :
    Calls Try.prog 31 #[.agg #[.int .i64 op, .int .i64 d, .int .i64 s, .int .i64 t, .int .i64 mb, .int .i64 mi, .int .i64 ms, .int .i64 md, .int .i64 imm]] w fun e w' => e = .returned (.tuple #[.string (outE op d s t mb mi ms md imm), .int .i64 (errOf (chk op d s t mb mi ms md imm))]) ∧ Below w.heap.size w w' := by
  unfold outE
  cases hk : chk op d s t mb mi ms md imm
  · exact rinst_err op d s t mb mi ms md imm w hk
  · exact rinst_ok op d s t mb mi ms md imm w hi hk
theorem rsize_any (op d s t mb mi ms md imm : Int) (w : World) (hi : -9223372036854775808 ≤ imm ∧ imm ≤ 9223372036854775807) :
    Calls Try.prog 39 #[.agg #[.int .i64 op, .int .i64 d, .int .i64 s, .int .i64 t, .int .i64 mb, .int .i64 mi, .int .i64 ms, .int .i64 md, .int .i64 imm]] w fun e w' => e = .returned (.int .i64 (outE op d s t mb mi ms md imm).size) ∧ Below w.heap.size w w' := by
  go_enter Try.func39, Try.ntmps39
  go_wp2_with fail
  go_at_call 31
  refine (rinst_any _ _ _ _ _ _ _ _ _ _ hi).mono ?_
  rintro e w1 ⟨rfl, hb1⟩
  have hB : Below w.heap.size w w1 := (bal (Below.refl _ _) _).trans (hb1.mono (by simp))
  go_wp2
  go_ret
  exact ⟨rfl, hB⟩
attribute [local irreducible] outE chk outs catO allOk
end Go.Proofs.Ytbcaelhchmoigaa
namespace Go.Proofs.Ytbcaelhchmoigaa
open Go.ChangeShapes Go.WideShapes Go.ChangeAt Go.RowKit
def Insts (W : World) (v : Value) (l : List Ins) : Prop :=
  (∀ x ∈ l, x.ok) ∧ ((l = [] ∧ ∃ a cap, v = .slice a 0 cap) ∨ ∃ b off cap, v = .slice (some ⟨b, off, none⟩) l.length cap ∧ InsRow W b off l ∧ b < W.heap.size)
end Go.Proofs.Ytbcaelhchmoigaa
