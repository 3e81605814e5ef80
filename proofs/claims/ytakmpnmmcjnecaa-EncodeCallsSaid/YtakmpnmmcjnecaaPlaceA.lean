/- encode.place (layer 6), the ways A. -/
import Derived.Test.YtakmpnmmcjnecaaPlace
namespace Go.Proofs.Ytakmpnmmcjnecaa
open Go.RowKit Calm
attribute [local irreducible] loR
set_option maxHeartbeats 4000000 in
set_option maxRecDepth 100000 in
theorem place_V0_S0 (mid mb mi ms md : Int) (w : World) (hm : 0 ≤ mid ∧ mid ≤ 15) (hb : 0 ≤ mb ∧ mb ≤ 15)  (hd : -2147483648 ≤ md ∧ md ≤ 2147483647)
    (c0 : (md == 0) = true) (c5 : (loR mb != 5) = true) (ci : (mi != -1) = false) (c4 : (loR mb == 4) = false) :
    Calls Try.prog 83 #[.int .i64 mid, .agg #[.int .i64 mb, .int .i64 mi, .int .i64 ms, .int .i64 md]] w fun e w' => RetB w.heap.size (rmI 0 mid (loR mb) :: littleL md 0) e w' ∧ Below w.heap.size w w' := by
  have l1 := loR_in mid
  have l2 := loR_in mb
  go_enter Try.func83, Try.ntmps83
  go_wp2_with (go_at_call 81; refine (low_any _ _ (by assumption)).mono ?_; rintro e w' ⟨rfl, rfl⟩)
  refine still_tail 10 (by kernel_rfl) (by kernel_rfl) ?_
  simp only [List.take_succ_cons, List.take_zero, List.drop_succ_cons, List.drop_zero]
  repeat (first | still_step | still_call (low_same _ _ hm) | still_call (low_same _ _ hb))
  refine wpStill_nil ?_
  go_wp2_with (go_at_call 81; refine (low_any _ _ (by assumption)).mono ?_; rintro e w' ⟨rfl, rfl⟩)
  have hL : IsB ((w.alloc (.cells #[.int .i64 mb, .int .i64 mi, .int .i64 ms, .int .i64 md] 23)).alloc (.cells #[.int .u8 (bits BinOp.or IntKind.u8 (bits BinOp.or IntKind.u8 0 (loR mid * 8)) (loR mb))] 5)).drew w.heap.size (.slice (some ⟨w.heap.size + 1, 0, none⟩) 1 1) [rmI 0 mid (loR mb)] := by
    rw [rmS_0 mid (loR mb) (loR_in mb)]
    have := IsB.lit (w.alloc (.cells #[.int .i64 mb, .int .i64 mi, .int .i64 ms, .int .i64 md] 23)) w.heap.size [rmI 0 mid (loR mb)] 1 rfl #[.int .u8 (rmI 0 mid (loR mb))] rfl (by simp) (by simp)
    rw [World.size_alloc] at this
    exact this
  go_at_call 82
  refine (little_any md 0 _ (by decide) (by omega)).mono ?_
  rintro e w1 ⟨⟨y, rfl, hy⟩, hb1⟩
  have hL1 := hL.later hb1
  have hB : Below w.heap.size w w1 := (below_dr ((bal (bal (Below.refl _ _) _) _))).trans (hb1.mono (by simp; omega))
  have hz2 := hB.size
  clear hL hb1
  go_wp2_with (at_builtin; refine wpList_appB (xs := [rmI 0 mid (loR mb)]) (bs := littleL md 0) (B := w.heap.size) rfl _ _ rfl rfl rfl hL1 hy hz2 (by rw [littleL_length]; simp) ?_; intro v' w' hB' hb')
  go_ret
  exact ⟨⟨_, rfl, hB'⟩, hB.trans hb'⟩
set_option maxHeartbeats 4000000 in
set_option maxRecDepth 100000 in
theorem place_V1a_S0 (mid mb mi ms md : Int) (w : World) (hm : 0 ≤ mid ∧ mid ≤ 15) (hb : 0 ≤ mb ∧ mb ≤ 15)  (hd : -2147483648 ≤ md ∧ md ≤ 2147483647)
    (c0 : (md == 0) = true) (c5 : (loR mb != 5) = false) (c8 : (md == wrap64 (IntKind.i8.wrap md)) = true) (ci : (mi != -1) = false) (c4 : (loR mb == 4) = false) :
    Calls Try.prog 83 #[.int .i64 mid, .agg #[.int .i64 mb, .int .i64 mi, .int .i64 ms, .int .i64 md]] w fun e w' => RetB w.heap.size (rmI 1 mid (loR mb) :: littleL md 1) e w' ∧ Below w.heap.size w w' := by
  have l1 := loR_in mid
  have l2 := loR_in mb
  go_enter Try.func83, Try.ntmps83
  go_wp2_with (go_at_call 81; refine (low_any _ _ (by assumption)).mono ?_; rintro e w' ⟨rfl, rfl⟩)
  refine still_tail 10 (by kernel_rfl) (by kernel_rfl) ?_
  simp only [List.take_succ_cons, List.take_zero, List.drop_succ_cons, List.drop_zero]
  repeat (first | still_step | still_call (low_same _ _ hm) | still_call (low_same _ _ hb))
  refine wpStill_nil ?_
  go_wp2_with (go_at_call 81; refine (low_any _ _ (by assumption)).mono ?_; rintro e w' ⟨rfl, rfl⟩)
  have hL : IsB ((w.alloc (.cells #[.int .i64 mb, .int .i64 mi, .int .i64 ms, .int .i64 md] 23)).alloc (.cells #[.int .u8 (bits BinOp.or IntKind.u8 (bits BinOp.or IntKind.u8 64 (loR mid * 8)) (loR mb))] 5)).drew w.heap.size (.slice (some ⟨w.heap.size + 1, 0, none⟩) 1 1) [rmI 1 mid (loR mb)] := by
    rw [rmS_64 mid (loR mb) (loR_in mb)]
    have := IsB.lit (w.alloc (.cells #[.int .i64 mb, .int .i64 mi, .int .i64 ms, .int .i64 md] 23)) w.heap.size [rmI 1 mid (loR mb)] 1 rfl #[.int .u8 (rmI 1 mid (loR mb))] rfl (by simp) (by simp)
    rw [World.size_alloc] at this
    exact this
  go_at_call 82
  refine (little_any md 1 _ (by decide) (by omega)).mono ?_
  rintro e w1 ⟨⟨y, rfl, hy⟩, hb1⟩
  have hL1 := hL.later hb1
  have hB : Below w.heap.size w w1 := (below_dr ((bal (bal (Below.refl _ _) _) _))).trans (hb1.mono (by simp; omega))
  have hz2 := hB.size
  clear hL hb1
  go_wp2_with (at_builtin; refine wpList_appB (xs := [rmI 1 mid (loR mb)]) (bs := littleL md 1) (B := w.heap.size) rfl _ _ rfl rfl rfl hL1 hy hz2 (by rw [littleL_length]; simp) ?_; intro v' w' hB' hb')
  go_ret
  exact ⟨⟨_, rfl, hB'⟩, hB.trans hb'⟩
set_option maxHeartbeats 4000000 in
set_option maxRecDepth 100000 in
theorem place_V1b_S0 (mid mb mi ms md : Int) (w : World) (hm : 0 ≤ mid ∧ mid ≤ 15) (hb : 0 ≤ mb ∧ mb ≤ 15)  (hd : -2147483648 ≤ md ∧ md ≤ 2147483647)
    (c0 : (md == 0) = false) (c8 : (md == wrap64 (IntKind.i8.wrap md)) = true) (ci : (mi != -1) = false) (c4 : (loR mb == 4) = false) :
    Calls Try.prog 83 #[.int .i64 mid, .agg #[.int .i64 mb, .int .i64 mi, .int .i64 ms, .int .i64 md]] w fun e w' => RetB w.heap.size (rmI 1 mid (loR mb) :: littleL md 1) e w' ∧ Below w.heap.size w w' := by
  have l1 := loR_in mid
  have l2 := loR_in mb
  go_enter Try.func83, Try.ntmps83
  go_wp2_with (go_at_call 81; refine (low_any _ _ (by assumption)).mono ?_; rintro e w' ⟨rfl, rfl⟩)
  refine still_tail 10 (by kernel_rfl) (by kernel_rfl) ?_
  simp only [List.take_succ_cons, List.take_zero, List.drop_succ_cons, List.drop_zero]
  repeat (first | still_step | still_call (low_same _ _ hm) | still_call (low_same _ _ hb))
  refine wpStill_nil ?_
  go_wp2_with (go_at_call 81; refine (low_any _ _ (by assumption)).mono ?_; rintro e w' ⟨rfl, rfl⟩)
  have hL : IsB ((w.alloc (.cells #[.int .i64 mb, .int .i64 mi, .int .i64 ms, .int .i64 md] 23)).alloc (.cells #[.int .u8 (bits BinOp.or IntKind.u8 (bits BinOp.or IntKind.u8 64 (loR mid * 8)) (loR mb))] 5)).drew w.heap.size (.slice (some ⟨w.heap.size + 1, 0, none⟩) 1 1) [rmI 1 mid (loR mb)] := by
    rw [rmS_64 mid (loR mb) (loR_in mb)]
    have := IsB.lit (w.alloc (.cells #[.int .i64 mb, .int .i64 mi, .int .i64 ms, .int .i64 md] 23)) w.heap.size [rmI 1 mid (loR mb)] 1 rfl #[.int .u8 (rmI 1 mid (loR mb))] rfl (by simp) (by simp)
    rw [World.size_alloc] at this
    exact this
  go_at_call 82
  refine (little_any md 1 _ (by decide) (by omega)).mono ?_
  rintro e w1 ⟨⟨y, rfl, hy⟩, hb1⟩
  have hL1 := hL.later hb1
  have hB : Below w.heap.size w w1 := (below_dr ((bal (bal (Below.refl _ _) _) _))).trans (hb1.mono (by simp; omega))
  have hz2 := hB.size
  clear hL hb1
  go_wp2_with (at_builtin; refine wpList_appB (xs := [rmI 1 mid (loR mb)]) (bs := littleL md 1) (B := w.heap.size) rfl _ _ rfl rfl rfl hL1 hy hz2 (by rw [littleL_length]; simp) ?_; intro v' w' hB' hb')
  go_ret
  exact ⟨⟨_, rfl, hB'⟩, hB.trans hb'⟩
set_option maxHeartbeats 4000000 in
set_option maxRecDepth 100000 in
theorem place_V2_S0 (mid mb mi ms md : Int) (w : World) (hm : 0 ≤ mid ∧ mid ≤ 15) (hb : 0 ≤ mb ∧ mb ≤ 15)  (hd : -2147483648 ≤ md ∧ md ≤ 2147483647)
    (c0 : (md == 0) = false) (c8 : (md == wrap64 (IntKind.i8.wrap md)) = false) (ci : (mi != -1) = false) (c4 : (loR mb == 4) = false) :
    Calls Try.prog 83 #[.int .i64 mid, .agg #[.int .i64 mb, .int .i64 mi, .int .i64 ms, .int .i64 md]] w fun e w' => RetB w.heap.size (rmI 2 mid (loR mb) :: littleL md 4) e w' ∧ Below w.heap.size w w' := by
  have l1 := loR_in mid
  have l2 := loR_in mb
  go_enter Try.func83, Try.ntmps83
  go_wp2_with (go_at_call 81; refine (low_any _ _ (by assumption)).mono ?_; rintro e w' ⟨rfl, rfl⟩)
  refine still_tail 10 (by kernel_rfl) (by kernel_rfl) ?_
  simp only [List.take_succ_cons, List.take_zero, List.drop_succ_cons, List.drop_zero]
  repeat (first | still_step | still_call (low_same _ _ hm) | still_call (low_same _ _ hb))
  refine wpStill_nil ?_
  go_wp2_with (go_at_call 81; refine (low_any _ _ (by assumption)).mono ?_; rintro e w' ⟨rfl, rfl⟩)
  have hL : IsB ((w.alloc (.cells #[.int .i64 mb, .int .i64 mi, .int .i64 ms, .int .i64 md] 23)).alloc (.cells #[.int .u8 (bits BinOp.or IntKind.u8 (128 + loR mid * 8) (loR mb))] 5)).drew w.heap.size (.slice (some ⟨w.heap.size + 1, 0, none⟩) 1 1) [rmI 2 mid (loR mb)] := by
    rw [rmS_128 mid (loR mb) (loR_in mb)]
    have := IsB.lit (w.alloc (.cells #[.int .i64 mb, .int .i64 mi, .int .i64 ms, .int .i64 md] 23)) w.heap.size [rmI 2 mid (loR mb)] 1 rfl #[.int .u8 (rmI 2 mid (loR mb))] rfl (by simp) (by simp)
    rw [World.size_alloc] at this
    exact this
  go_at_call 82
  refine (little_any md 4 _ (by decide) (by omega)).mono ?_
  rintro e w1 ⟨⟨y, rfl, hy⟩, hb1⟩
  have hL1 := hL.later hb1
  have hB : Below w.heap.size w w1 := (below_dr ((bal (bal (Below.refl _ _) _) _))).trans (hb1.mono (by simp; omega))
  have hz2 := hB.size
  clear hL hb1
  go_wp2_with (at_builtin; refine wpList_appB (xs := [rmI 2 mid (loR mb)]) (bs := littleL md 4) (B := w.heap.size) rfl _ _ rfl rfl rfl hL1 hy hz2 (by rw [littleL_length]; simp) ?_; intro v' w' hB' hb')
  go_ret
  exact ⟨⟨_, rfl, hB'⟩, hB.trans hb'⟩
end Go.Proofs.Ytakmpnmmcjnecaa
