/- encode.place (layer 6), the ways B. -/
import Derived.Test.YtakmpnmmcjnecaaPlace
namespace Go.Proofs.Ytakmpnmmcjnecaa
open Go.RowKit Calm
attribute [local irreducible] loR
set_option maxHeartbeats 4000000 in
set_option maxRecDepth 100000 in
theorem place_V0_S1 (mid mb mi ms md : Int) (w : World) (hm : 0 ≤ mid ∧ mid ≤ 15) (hb : 0 ≤ mb ∧ mb ≤ 15) (hms : ms = 1 ∨ ms = 2 ∨ ms = 4 ∨ ms = 8) (hd : -2147483648 ≤ md ∧ md ≤ 2147483647)
    (c0 : (md == 0) = true) (c5 : (loR mb != 5) = true) (ci : (mi != -1) = true) (hmi : 0 ≤ mi ∧ mi ≤ 15) :
    Calls Try.prog 83 #[.int .i64 mid, .agg #[.int .i64 mb, .int .i64 mi, .int .i64 ms, .int .i64 md]] w fun e w' => RetB w.heap.size (rmI 0 mid 4 :: sibI ms (loR mi) mb :: littleL md 0) e w' ∧ Below w.heap.size w w' := by
  have l1 := loR_in mid
  have l2 := loR_in mb
  have l3 := loR_in mi
  go_enter Try.func83, Try.ntmps83
  go_wp2_with (go_at_call 81; refine (low_any _ _ (by assumption)).mono ?_; rintro e w' ⟨rfl, rfl⟩)
  refine still_tail 10 (by kernel_rfl) (by kernel_rfl) ?_
  simp only [List.take_succ_cons, List.take_zero, List.drop_succ_cons, List.drop_zero]
  repeat (first | still_step | still_call (low_same _ _ hm) | still_call (low_same _ _ hb))
  refine wpStill_nil ?_
  go_wp2_with (go_at_call 81; refine (low_any _ _ (by assumption)).mono ?_; rintro e w' ⟨rfl, rfl⟩)
  obtain ⟨W, hW⟩ : ∃ W, ((w.alloc (.cells #[.int .i64 mb, .int .i64 mi, .int .i64 ms, .int .i64 md] 23)).alloc (.cells #[.int .u8 (bits BinOp.or IntKind.u8 (bits BinOp.or IntKind.u8 0 (loR mid * 8)) (loR mb))] 5)).drew = W := ⟨_, rfl⟩
  rw [hW]
  have hbW : Below w.heap.size w W := by rw [← hW]; exact below_dr (bal (bal (Below.refl _ _) _) _)
  have s0 : W.cell? ⟨w.heap.size, 0, none⟩ = some (.int .i64 mb) := by subst hW; go_simp
  have s2 : W.cell? ⟨w.heap.size, 2, none⟩ = some (.int .i64 ms) := by subst hW; go_simp
  have s3 : W.cell? ⟨w.heap.size, 3, none⟩ = some (.int .i64 md) := by subst hW; go_simp
  have hz0 : w.heap.size < W.heap.size := by subst hW; simp; omega
  have look : (Instr.lookup 119 (.map (some W.heap.size)) (.int .i64 ms) false).run Try.prog (W.alloc (.map scalesE 4)).drew = .ok (.int .u8 (scaleI ms)) (W.alloc (.map scalesE 4)).drew := look_scale W.drew W.heap.size rfl ms hms
  clear hW
  go_region_held3 (fun V : World => V.cell? ⟨w.heap.size, 0, none⟩ = some (.int .i64 mb) ∧ V.cell? ⟨w.heap.size, 2, none⟩ = some (.int .i64 ms)) (first | exact ⟨s0, s2⟩ | (constructor <;> go_simp)) (first | (go_at_call 81; refine (low_any _ _ (by assumption)).mono ?_; rintro e w' ⟨rfl, rfl⟩) | (go_at_call 90; refine (scales_any _).mono ?_; rintro e w' ⟨rfl, rfl⟩))
  all_goals
    clear look
    have hL : IsB ((W.alloc (.map scalesE 4)).alloc (.cells #[.int .u8 (bits BinOp.or IntKind.u8 (bits BinOp.or IntKind.u8 0 (loR mid * 8)) 4), .int .u8 (bits BinOp.or IntKind.u8 (bits BinOp.or IntKind.u8 (scaleI ms * 64 % 256) (loR mi * 8)) (loR mb))] 5)).drew w.heap.size (.slice (some ⟨W.heap.size + 1, 0, none⟩) 2 2) [rmI 0 mid 4, sibI ms (loR mi) mb] := by
      rw [rmS_0 mid 4 (by omega), sib_form ms (loR mi) mb (loR_in mi)]
      have := IsB.lit (W.alloc (.map scalesE 4)) w.heap.size [rmI 0 mid 4, sibI ms (loR mi) mb] 2 rfl #[.int .u8 (rmI 0 mid 4), .int .u8 (sibI ms (loR mi) mb)] rfl (by simp; omega) (by simp)
      rw [World.size_alloc] at this
      exact this
    go_wp2_with (go_at_call 81; refine (low_any _ _ (by assumption)).mono ?_; rintro e w' ⟨rfl, rfl⟩)
    go_at_call 82
    refine (little_any md 0 _ (by decide) (by omega)).mono ?_
    rintro e w1 ⟨⟨y, rfl, hy⟩, hb1⟩
    have hL1 := hL.later hb1
    have hB : Below w.heap.size w w1 := (below_dr (bal (bal hbW _) _)).trans (hb1.mono (by simp; omega))
    have hz2 := hB.size
    clear hL hb1
    go_wp2_with (at_builtin; refine wpList_appB (xs := [rmI 0 mid 4, sibI ms (loR mi) mb]) (bs := littleL md 0) (B := w.heap.size) rfl _ _ rfl rfl rfl hL1 hy hz2 (by rw [littleL_length]; simp) ?_; intro v' w' hB' hb')
    go_ret
    exact ⟨⟨_, rfl, hB'⟩, hB.trans hb'⟩
set_option maxHeartbeats 4000000 in
set_option maxRecDepth 100000 in
theorem place_V1a_S1 (mid mb mi ms md : Int) (w : World) (hm : 0 ≤ mid ∧ mid ≤ 15) (hb : 0 ≤ mb ∧ mb ≤ 15) (hms : ms = 1 ∨ ms = 2 ∨ ms = 4 ∨ ms = 8) (hd : -2147483648 ≤ md ∧ md ≤ 2147483647)
    (c0 : (md == 0) = true) (c5 : (loR mb != 5) = false) (c8 : (md == wrap64 (IntKind.i8.wrap md)) = true) (ci : (mi != -1) = true) (hmi : 0 ≤ mi ∧ mi ≤ 15) :
    Calls Try.prog 83 #[.int .i64 mid, .agg #[.int .i64 mb, .int .i64 mi, .int .i64 ms, .int .i64 md]] w fun e w' => RetB w.heap.size (rmI 1 mid 4 :: sibI ms (loR mi) mb :: littleL md 1) e w' ∧ Below w.heap.size w w' := by
  have l1 := loR_in mid
  have l2 := loR_in mb
  have l3 := loR_in mi
  go_enter Try.func83, Try.ntmps83
  go_wp2_with (go_at_call 81; refine (low_any _ _ (by assumption)).mono ?_; rintro e w' ⟨rfl, rfl⟩)
  refine still_tail 10 (by kernel_rfl) (by kernel_rfl) ?_
  simp only [List.take_succ_cons, List.take_zero, List.drop_succ_cons, List.drop_zero]
  repeat (first | still_step | still_call (low_same _ _ hm) | still_call (low_same _ _ hb))
  refine wpStill_nil ?_
  go_wp2_with (go_at_call 81; refine (low_any _ _ (by assumption)).mono ?_; rintro e w' ⟨rfl, rfl⟩)
  obtain ⟨W, hW⟩ : ∃ W, ((w.alloc (.cells #[.int .i64 mb, .int .i64 mi, .int .i64 ms, .int .i64 md] 23)).alloc (.cells #[.int .u8 (bits BinOp.or IntKind.u8 (bits BinOp.or IntKind.u8 64 (loR mid * 8)) (loR mb))] 5)).drew = W := ⟨_, rfl⟩
  rw [hW]
  have hbW : Below w.heap.size w W := by rw [← hW]; exact below_dr (bal (bal (Below.refl _ _) _) _)
  have s0 : W.cell? ⟨w.heap.size, 0, none⟩ = some (.int .i64 mb) := by subst hW; go_simp
  have s2 : W.cell? ⟨w.heap.size, 2, none⟩ = some (.int .i64 ms) := by subst hW; go_simp
  have s3 : W.cell? ⟨w.heap.size, 3, none⟩ = some (.int .i64 md) := by subst hW; go_simp
  have hz0 : w.heap.size < W.heap.size := by subst hW; simp; omega
  have look : (Instr.lookup 119 (.map (some W.heap.size)) (.int .i64 ms) false).run Try.prog (W.alloc (.map scalesE 4)).drew = .ok (.int .u8 (scaleI ms)) (W.alloc (.map scalesE 4)).drew := look_scale W.drew W.heap.size rfl ms hms
  clear hW
  go_region_held3 (fun V : World => V.cell? ⟨w.heap.size, 0, none⟩ = some (.int .i64 mb) ∧ V.cell? ⟨w.heap.size, 2, none⟩ = some (.int .i64 ms)) (first | exact ⟨s0, s2⟩ | (constructor <;> go_simp)) (first | (go_at_call 81; refine (low_any _ _ (by assumption)).mono ?_; rintro e w' ⟨rfl, rfl⟩) | (go_at_call 90; refine (scales_any _).mono ?_; rintro e w' ⟨rfl, rfl⟩))
  all_goals
    clear look
    have hL : IsB ((W.alloc (.map scalesE 4)).alloc (.cells #[.int .u8 (bits BinOp.or IntKind.u8 (bits BinOp.or IntKind.u8 64 (loR mid * 8)) 4), .int .u8 (bits BinOp.or IntKind.u8 (bits BinOp.or IntKind.u8 (scaleI ms * 64 % 256) (loR mi * 8)) (loR mb))] 5)).drew w.heap.size (.slice (some ⟨W.heap.size + 1, 0, none⟩) 2 2) [rmI 1 mid 4, sibI ms (loR mi) mb] := by
      rw [rmS_64 mid 4 (by omega), sib_form ms (loR mi) mb (loR_in mi)]
      have := IsB.lit (W.alloc (.map scalesE 4)) w.heap.size [rmI 1 mid 4, sibI ms (loR mi) mb] 2 rfl #[.int .u8 (rmI 1 mid 4), .int .u8 (sibI ms (loR mi) mb)] rfl (by simp; omega) (by simp)
      rw [World.size_alloc] at this
      exact this
    go_wp2_with (go_at_call 81; refine (low_any _ _ (by assumption)).mono ?_; rintro e w' ⟨rfl, rfl⟩)
    go_at_call 82
    refine (little_any md 1 _ (by decide) (by omega)).mono ?_
    rintro e w1 ⟨⟨y, rfl, hy⟩, hb1⟩
    have hL1 := hL.later hb1
    have hB : Below w.heap.size w w1 := (below_dr (bal (bal hbW _) _)).trans (hb1.mono (by simp; omega))
    have hz2 := hB.size
    clear hL hb1
    go_wp2_with (at_builtin; refine wpList_appB (xs := [rmI 1 mid 4, sibI ms (loR mi) mb]) (bs := littleL md 1) (B := w.heap.size) rfl _ _ rfl rfl rfl hL1 hy hz2 (by rw [littleL_length]; simp) ?_; intro v' w' hB' hb')
    go_ret
    exact ⟨⟨_, rfl, hB'⟩, hB.trans hb'⟩
set_option maxHeartbeats 4000000 in
set_option maxRecDepth 100000 in
theorem place_V1b_S1 (mid mb mi ms md : Int) (w : World) (hm : 0 ≤ mid ∧ mid ≤ 15) (hb : 0 ≤ mb ∧ mb ≤ 15) (hms : ms = 1 ∨ ms = 2 ∨ ms = 4 ∨ ms = 8) (hd : -2147483648 ≤ md ∧ md ≤ 2147483647)
    (c0 : (md == 0) = false) (c8 : (md == wrap64 (IntKind.i8.wrap md)) = true) (ci : (mi != -1) = true) (hmi : 0 ≤ mi ∧ mi ≤ 15) :
    Calls Try.prog 83 #[.int .i64 mid, .agg #[.int .i64 mb, .int .i64 mi, .int .i64 ms, .int .i64 md]] w fun e w' => RetB w.heap.size (rmI 1 mid 4 :: sibI ms (loR mi) mb :: littleL md 1) e w' ∧ Below w.heap.size w w' := by
  have l1 := loR_in mid
  have l2 := loR_in mb
  have l3 := loR_in mi
  go_enter Try.func83, Try.ntmps83
  go_wp2_with (go_at_call 81; refine (low_any _ _ (by assumption)).mono ?_; rintro e w' ⟨rfl, rfl⟩)
  refine still_tail 10 (by kernel_rfl) (by kernel_rfl) ?_
  simp only [List.take_succ_cons, List.take_zero, List.drop_succ_cons, List.drop_zero]
  repeat (first | still_step | still_call (low_same _ _ hm) | still_call (low_same _ _ hb))
  refine wpStill_nil ?_
  go_wp2_with (go_at_call 81; refine (low_any _ _ (by assumption)).mono ?_; rintro e w' ⟨rfl, rfl⟩)
  obtain ⟨W, hW⟩ : ∃ W, ((w.alloc (.cells #[.int .i64 mb, .int .i64 mi, .int .i64 ms, .int .i64 md] 23)).alloc (.cells #[.int .u8 (bits BinOp.or IntKind.u8 (bits BinOp.or IntKind.u8 64 (loR mid * 8)) (loR mb))] 5)).drew = W := ⟨_, rfl⟩
  rw [hW]
  have hbW : Below w.heap.size w W := by rw [← hW]; exact below_dr (bal (bal (Below.refl _ _) _) _)
  have s0 : W.cell? ⟨w.heap.size, 0, none⟩ = some (.int .i64 mb) := by subst hW; go_simp
  have s2 : W.cell? ⟨w.heap.size, 2, none⟩ = some (.int .i64 ms) := by subst hW; go_simp
  have s3 : W.cell? ⟨w.heap.size, 3, none⟩ = some (.int .i64 md) := by subst hW; go_simp
  have hz0 : w.heap.size < W.heap.size := by subst hW; simp; omega
  have look : (Instr.lookup 119 (.map (some W.heap.size)) (.int .i64 ms) false).run Try.prog (W.alloc (.map scalesE 4)).drew = .ok (.int .u8 (scaleI ms)) (W.alloc (.map scalesE 4)).drew := look_scale W.drew W.heap.size rfl ms hms
  clear hW
  go_region_held3 (fun V : World => V.cell? ⟨w.heap.size, 0, none⟩ = some (.int .i64 mb) ∧ V.cell? ⟨w.heap.size, 2, none⟩ = some (.int .i64 ms)) (first | exact ⟨s0, s2⟩ | (constructor <;> go_simp)) (first | (go_at_call 81; refine (low_any _ _ (by assumption)).mono ?_; rintro e w' ⟨rfl, rfl⟩) | (go_at_call 90; refine (scales_any _).mono ?_; rintro e w' ⟨rfl, rfl⟩))
  all_goals
    clear look
    have hL : IsB ((W.alloc (.map scalesE 4)).alloc (.cells #[.int .u8 (bits BinOp.or IntKind.u8 (bits BinOp.or IntKind.u8 64 (loR mid * 8)) 4), .int .u8 (bits BinOp.or IntKind.u8 (bits BinOp.or IntKind.u8 (scaleI ms * 64 % 256) (loR mi * 8)) (loR mb))] 5)).drew w.heap.size (.slice (some ⟨W.heap.size + 1, 0, none⟩) 2 2) [rmI 1 mid 4, sibI ms (loR mi) mb] := by
      rw [rmS_64 mid 4 (by omega), sib_form ms (loR mi) mb (loR_in mi)]
      have := IsB.lit (W.alloc (.map scalesE 4)) w.heap.size [rmI 1 mid 4, sibI ms (loR mi) mb] 2 rfl #[.int .u8 (rmI 1 mid 4), .int .u8 (sibI ms (loR mi) mb)] rfl (by simp; omega) (by simp)
      rw [World.size_alloc] at this
      exact this
    go_wp2_with (go_at_call 81; refine (low_any _ _ (by assumption)).mono ?_; rintro e w' ⟨rfl, rfl⟩)
    go_at_call 82
    refine (little_any md 1 _ (by decide) (by omega)).mono ?_
    rintro e w1 ⟨⟨y, rfl, hy⟩, hb1⟩
    have hL1 := hL.later hb1
    have hB : Below w.heap.size w w1 := (below_dr (bal (bal hbW _) _)).trans (hb1.mono (by simp; omega))
    have hz2 := hB.size
    clear hL hb1
    go_wp2_with (at_builtin; refine wpList_appB (xs := [rmI 1 mid 4, sibI ms (loR mi) mb]) (bs := littleL md 1) (B := w.heap.size) rfl _ _ rfl rfl rfl hL1 hy hz2 (by rw [littleL_length]; simp) ?_; intro v' w' hB' hb')
    go_ret
    exact ⟨⟨_, rfl, hB'⟩, hB.trans hb'⟩
set_option maxHeartbeats 4000000 in
set_option maxRecDepth 100000 in
theorem place_V2_S1 (mid mb mi ms md : Int) (w : World) (hm : 0 ≤ mid ∧ mid ≤ 15) (hb : 0 ≤ mb ∧ mb ≤ 15) (hms : ms = 1 ∨ ms = 2 ∨ ms = 4 ∨ ms = 8) (hd : -2147483648 ≤ md ∧ md ≤ 2147483647)
    (c0 : (md == 0) = false) (c8 : (md == wrap64 (IntKind.i8.wrap md)) = false) (ci : (mi != -1) = true) (hmi : 0 ≤ mi ∧ mi ≤ 15) :
    Calls Try.prog 83 #[.int .i64 mid, .agg #[.int .i64 mb, .int .i64 mi, .int .i64 ms, .int .i64 md]] w fun e w' => RetB w.heap.size (rmI 2 mid 4 :: sibI ms (loR mi) mb :: littleL md 4) e w' ∧ Below w.heap.size w w' := by
  have l1 := loR_in mid
  have l2 := loR_in mb
  have l3 := loR_in mi
  go_enter Try.func83, Try.ntmps83
  go_wp2_with (go_at_call 81; refine (low_any _ _ (by assumption)).mono ?_; rintro e w' ⟨rfl, rfl⟩)
  refine still_tail 10 (by kernel_rfl) (by kernel_rfl) ?_
  simp only [List.take_succ_cons, List.take_zero, List.drop_succ_cons, List.drop_zero]
  repeat (first | still_step | still_call (low_same _ _ hm) | still_call (low_same _ _ hb))
  refine wpStill_nil ?_
  go_wp2_with (go_at_call 81; refine (low_any _ _ (by assumption)).mono ?_; rintro e w' ⟨rfl, rfl⟩)
  obtain ⟨W, hW⟩ : ∃ W, ((w.alloc (.cells #[.int .i64 mb, .int .i64 mi, .int .i64 ms, .int .i64 md] 23)).alloc (.cells #[.int .u8 (bits BinOp.or IntKind.u8 (128 + loR mid * 8) (loR mb))] 5)).drew = W := ⟨_, rfl⟩
  rw [hW]
  have hbW : Below w.heap.size w W := by rw [← hW]; exact below_dr (bal (bal (Below.refl _ _) _) _)
  have s0 : W.cell? ⟨w.heap.size, 0, none⟩ = some (.int .i64 mb) := by subst hW; go_simp
  have s2 : W.cell? ⟨w.heap.size, 2, none⟩ = some (.int .i64 ms) := by subst hW; go_simp
  have s3 : W.cell? ⟨w.heap.size, 3, none⟩ = some (.int .i64 md) := by subst hW; go_simp
  have hz0 : w.heap.size < W.heap.size := by subst hW; simp; omega
  have look : (Instr.lookup 119 (.map (some W.heap.size)) (.int .i64 ms) false).run Try.prog (W.alloc (.map scalesE 4)).drew = .ok (.int .u8 (scaleI ms)) (W.alloc (.map scalesE 4)).drew := look_scale W.drew W.heap.size rfl ms hms
  clear hW
  go_region_held3 (fun V : World => V.cell? ⟨w.heap.size, 0, none⟩ = some (.int .i64 mb) ∧ V.cell? ⟨w.heap.size, 2, none⟩ = some (.int .i64 ms)) (first | exact ⟨s0, s2⟩ | (constructor <;> go_simp)) (first | (go_at_call 81; refine (low_any _ _ (by assumption)).mono ?_; rintro e w' ⟨rfl, rfl⟩) | (go_at_call 90; refine (scales_any _).mono ?_; rintro e w' ⟨rfl, rfl⟩))
  all_goals
    clear look
    have hL : IsB ((W.alloc (.map scalesE 4)).alloc (.cells #[.int .u8 (bits BinOp.or IntKind.u8 (128 + loR mid * 8) 4), .int .u8 (bits BinOp.or IntKind.u8 (bits BinOp.or IntKind.u8 (scaleI ms * 64 % 256) (loR mi * 8)) (loR mb))] 5)).drew w.heap.size (.slice (some ⟨W.heap.size + 1, 0, none⟩) 2 2) [rmI 2 mid 4, sibI ms (loR mi) mb] := by
      rw [rmS_128 mid 4 (by omega), sib_form ms (loR mi) mb (loR_in mi)]
      have := IsB.lit (W.alloc (.map scalesE 4)) w.heap.size [rmI 2 mid 4, sibI ms (loR mi) mb] 2 rfl #[.int .u8 (rmI 2 mid 4), .int .u8 (sibI ms (loR mi) mb)] rfl (by simp; omega) (by simp)
      rw [World.size_alloc] at this
      exact this
    go_wp2_with (go_at_call 81; refine (low_any _ _ (by assumption)).mono ?_; rintro e w' ⟨rfl, rfl⟩)
    go_at_call 82
    refine (little_any md 4 _ (by decide) (by omega)).mono ?_
    rintro e w1 ⟨⟨y, rfl, hy⟩, hb1⟩
    have hL1 := hL.later hb1
    have hB : Below w.heap.size w w1 := (below_dr (bal (bal hbW _) _)).trans (hb1.mono (by simp; omega))
    have hz2 := hB.size
    clear hL hb1
    go_wp2_with (at_builtin; refine wpList_appB (xs := [rmI 2 mid 4, sibI ms (loR mi) mb]) (bs := littleL md 4) (B := w.heap.size) rfl _ _ rfl rfl rfl hL1 hy hz2 (by rw [littleL_length]; simp) ?_; intro v' w' hB' hb')
    go_ret
    exact ⟨⟨_, rfl, hB'⟩, hB.trans hb'⟩
end Go.Proofs.Ytakmpnmmcjnecaa
