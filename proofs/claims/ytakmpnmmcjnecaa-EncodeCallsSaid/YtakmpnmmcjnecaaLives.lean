/- keysmithlaw06: lives, put; encode.Size. Conditions: numbers are numbers of 64 bits. -/
import Derived.Test.YtakmpnmmcjnecaaRef
namespace Go.Proofs.Ytakmpnmmcjnecaa
open Go.RowKit Calm

theorem einst_eq (op d s t mb mi ms md imm : Int) (B : ByteArray) (w : World) (hd : -9223372036854775808 ≤ md ∧ md ≤ 9223372036854775807) (hi : -9223372036854775808 ≤ imm ∧ imm ≤ 9223372036854775807)
    (k : Int) (hB : outE op d s t mb mi ms md imm = B) (hk : errOf (chk op d s t mb mi ms md imm) = k) :
    Calls Try.prog 17 #[.agg #[.int .i64 op, .int .i64 d, .int .i64 s, .int .i64 t, .int .i64 mb, .int .i64 mi, .int .i64 ms, .int .i64 md, .int .i64 imm]] w
      fun e w' => e = .returned (.tuple #[.string B, .int .i64 k]) ∧ Below w.heap.size w w' := by
  rw [← hB, ← hk]; exact einst_any op d s t mb mi ms md imm w hd hi
theorem lit_a : outE 7 0 1 0 0 0 0 0 0 = ⟨#[72, 17, 200]⟩ := by kernel_rfl
theorem lit_b : outE 3 9 0 0 4 (-1) 1 8 0 = ⟨#[76, 139, 76, 36, 8]⟩ := by kernel_rfl
theorem lit_c : outE 19 0 1 6 0 0 0 0 0 = ⟨#[196, 226, 243, 246, 198]⟩ := by kernel_rfl
theorem lives_any (w : World) : Calls Try.prog 13 #[] w fun e w' => e = .returned (.bool true) ∧ Below w.heap.size w w' := by
  go_enter Try.func13, Try.ntmps13
  go_wp2_with fail
  go_at_call 17
  refine (einst_eq _ _ _ _ _ _ _ _ _ _ _ (by decide) (by decide) 0 lit_a (by kernel_rfl)).mono ?_
  rintro e w1 ⟨rfl, hb1⟩
  go_wp2_with fail
  go_at_call 17
  refine (einst_eq _ _ _ _ _ _ _ _ _ _ _ (by decide) (by decide) 0 lit_b (by kernel_rfl)).mono ?_
  rintro e w2 ⟨rfl, hb2⟩
  go_wp2_with fail
  go_at_call 17
  refine (einst_eq _ _ _ _ _ _ _ _ _ _ _ (by decide) (by decide) 0 lit_c (by kernel_rfl)).mono ?_
  rintro e w3 ⟨rfl, hb3⟩
  have hB := (hb1.trans (hb2.mono hb1.size)).trans (hb3.mono (Nat.le_trans hb1.size hb2.size))
  go_wp2
  go_ret
  exact ⟨rfl, hB⟩
theorem put_any (op d s t mb mi ms md imm : Int) (w : World) (hd : -9223372036854775808 ≤ md ∧ md ≤ 9223372036854775807) (hi : -9223372036854775808 ≤ imm ∧ imm ≤ 9223372036854775807) :
    Calls Try.prog 19 #[.agg #[.int .i64 op, .int .i64 d, .int .i64 s, .int .i64 t, .int .i64 mb, .int .i64 mi, .int .i64 ms, .int .i64 md, .int .i64 imm]] w
      fun e w' => e = .returned (.string (outE op d s t mb mi ms md imm)) ∧ Below w.heap.size w w' := by
  go_enter Try.func19, Try.ntmps19
  go_wp2_with fail
  go_at_call 17
  refine (einst_any _ _ _ _ _ _ _ _ _ _ hd hi).mono ?_
  rintro e w1 ⟨rfl, hb1⟩
  have hB : Below w.heap.size w w1 := (bal (Below.refl _ _) _).trans (hb1.mono (by simp))
  go_wp2
  go_ret
  exact ⟨rfl, hB⟩
theorem size_any (op d s t mb mi ms md imm : Int) (w : World) (hd : -9223372036854775808 ≤ md ∧ md ≤ 9223372036854775807) (hi : -9223372036854775808 ≤ imm ∧ imm ≤ 9223372036854775807) :
    Calls Try.prog 20 #[.agg #[.int .i64 op, .int .i64 d, .int .i64 s, .int .i64 t, .int .i64 mb, .int .i64 mi, .int .i64 ms, .int .i64 md, .int .i64 imm]] w
      fun e w' => e = .returned (.int .i64 (outE op d s t mb mi ms md imm).size) ∧ Below w.heap.size w w' := by
  go_enter Try.func20, Try.ntmps20
  go_wp2_with fail
  go_at_call 17
  refine (einst_any _ _ _ _ _ _ _ _ _ _ hd hi).mono ?_
  rintro e w1 ⟨rfl, hb1⟩
  have hB : Below w.heap.size w w1 := (bal (Below.refl _ _) _).trans (hb1.mono (by simp))
  go_wp2
  go_ret
  exact ⟨rfl, hB⟩
end Go.Proofs.Ytakmpnmmcjnecaa
