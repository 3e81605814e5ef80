import Derived.Test.YtbcaelhchmoigaaMA
import Derived.StillTailTactics
import Derived.Deep.RegionHeld3
import Derived.BigGuardPart
set_option maxHeartbeats 4000000
set_option maxRecDepth 100000
set_option linter.unusedVariables false
set_option linter.unusedSimpArgs false
namespace Go.Proofs.Ytbcaelhchmoigaa
open Go.RowKit Calm
theorem low_same (r : Int) (w : World) (h : 0 ≤ r ∧ r ≤ 15) : Calls Try.prog 88 #[.int .i64 r] w fun e w' => e = .returned (.int .u8 (loR r)) ∧ w' = w :=
  (low_any r w h).mono fun _ _ ⟨a, b⟩ => ⟨a, b.symm⟩
def rmI (mod mid last : Int) : Int := 64 * mod + 8 * loR mid + last
def sibI (ms x mb : Int) : Int := 64 * scaleI ms + 8 * x + loR mb
theorem or_all3 : ∀ a ∈ List.range 8, ∀ b ∈ List.range 8, ∀ m ∈ List.range 4, bits BinOp.or IntKind.u8 (bits BinOp.or IntKind.u8 ((m : Int) * 64 % 256) ((a : Int) * 8)) (b : Int) = 64 * (m : Int) + 8 * (a : Int) + (b : Int) := by decide +kernel
theorem or_of3 (m a b : Int) (hm : 0 ≤ m ∧ m ≤ 3) (ha : 0 ≤ a ∧ a ≤ 7) (hb : 0 ≤ b ∧ b ≤ 7) : bits BinOp.or IntKind.u8 (bits BinOp.or IntKind.u8 (m * 64 % 256) (a * 8)) b = 64 * m + 8 * a + b := by
  have h := or_all3 a.toNat (by rw [List.mem_range]; omega) b.toNat (by rw [List.mem_range]; omega) m.toNat (by rw [List.mem_range]; omega)
  rw [show ((a.toNat : Nat) : Int) = a by omega, show ((b.toNat : Nat) : Int) = b by omega, show ((m.toNat : Nat) : Int) = m by omega] at h
  exact h
theorem or_all4 : ∀ a ∈ List.range 8, ∀ b ∈ List.range 8, bits BinOp.or IntKind.u8 (128 + (a : Int) * 8) (b : Int) = 64 * 2 + 8 * (a : Int) + (b : Int) := by decide +kernel
theorem or_of4 (a b : Int) (ha : 0 ≤ a ∧ a ≤ 7) (hb : 0 ≤ b ∧ b ≤ 7) : bits BinOp.or IntKind.u8 (128 + a * 8) b = 64 * 2 + 8 * a + b := by
  have h := or_all4 a.toNat (by rw [List.mem_range]; omega) b.toNat (by rw [List.mem_range]; omega)
  rw [show ((a.toNat : Nat) : Int) = a by omega, show ((b.toNat : Nat) : Int) = b by omega] at h
  exact h
theorem scaleI_in (s : Int) : 0 ≤ scaleI s ∧ scaleI s ≤ 3 := by unfold scaleI; split <;> (try split) <;> (try split) <;> omega
theorem rmS_0 (mid x : Int) (hx : 0 ≤ x ∧ x ≤ 7) : bits BinOp.or IntKind.u8 (bits BinOp.or IntKind.u8 0 (loR mid * 8)) x = rmI 0 mid x := or_of3 0 _ x (by omega) (loR_in mid) hx
theorem rmS_64 (mid x : Int) (hx : 0 ≤ x ∧ x ≤ 7) : bits BinOp.or IntKind.u8 (bits BinOp.or IntKind.u8 64 (loR mid * 8)) x = rmI 1 mid x := or_of3 1 _ x (by omega) (loR_in mid) hx
theorem rmS_128 (mid x : Int) (hx : 0 ≤ x ∧ x ≤ 7) : bits BinOp.or IntKind.u8 (128 + loR mid * 8) x = rmI 2 mid x := or_of4 _ x (loR_in mid) hx
theorem sib_form (ms x mb : Int) (hx : 0 ≤ x ∧ x ≤ 7) : bits BinOp.or IntKind.u8 (bits BinOp.or IntKind.u8 (scaleI ms * 64 % 256) (x * 8)) (loR mb) = sibI ms x mb := or_of3 _ _ _ (scaleI_in ms) hx (loR_in mb)
theorem sib_4 (ms mb : Int) : bits BinOp.or IntKind.u8 (bits BinOp.or IntKind.u8 (scaleI ms * 64 % 256) 32) (loR mb) = sibI ms 4 mb := sib_form ms 4 mb (by omega)
theorem below_dr {B : Nat} {a w : World} (h : Below B a w) : Below B a w.drew := h.drew
theorem still_tail {P : Program} {id : Nat} {Q : Exit → Act → World → Prop} {a : Act} {w : World} {l : List Oper} (n : Nat) (hm : P.follows .mixedOrders = true) (hB : Region.lexTailB .any l.toArray n = true)
    (h : wpStill P l.toArray w.drew (fun a' => wpList P l.toArray Q (l.drop n) a' w.drew) (l.take n) a) : (Code.region id l.toArray true).wp P Q a w := wp_region_still_tail n hm hB h
attribute [local irreducible] loR
end Go.Proofs.Ytbcaelhchmoigaa
namespace Go.Proofs.Ytbcaelhchmoigaa
open Go.RowKit Calm
attribute [local irreducible] loR
theorem place_V0_S0 (mid mb mi ms md : Int) (w : World) (hm : 0 ≤ mid ∧ mid ≤ 15) (hb : 0 ≤ mb ∧ mb ≤ 15)  (hd : -2147483648 ≤ md ∧ md ≤ 2147483647)
    (c0 : (md == 0) = true) (c5 : (loR mb != 5) = true) (ci : (mi != -1) = false) (c4 : (loR mb == 4) = false) :
    Calls Try.prog 90 #[.int .i64 mid, .agg #[.int .i64 mb, .int .i64 mi, .int .i64 ms, .int .i64 md]] w fun e w' => RetB w.heap.size (rmI 0 mid (loR mb) :: littleL md 0) e w' ∧ Below w.heap.size w w' := by
  have l1 := loR_in mid
  have l2 := loR_in mb
  go_enter Try.func90, Try.ntmps90
  go_wp2_with (go_at_call 88; refine (low_any _ _ (by assumption)).mono ?_; rintro e w' ⟨rfl, rfl⟩)
  refine still_tail 10 (by kernel_rfl) (by kernel_rfl) ?_
  simp only [List.take_succ_cons, List.take_zero, List.drop_succ_cons, List.drop_zero]
  repeat (first | still_step | still_call (low_same _ _ hm) | still_call (low_same _ _ hb))
  refine wpStill_nil ?_
  go_wp2_with (go_at_call 88; refine (low_any _ _ (by assumption)).mono ?_; rintro e w' ⟨rfl, rfl⟩)
  have hL : IsB ((w.alloc (.cells #[.int .i64 mb, .int .i64 mi, .int .i64 ms, .int .i64 md] 33)).alloc (.cells #[.int .u8 (bits BinOp.or IntKind.u8 (bits BinOp.or IntKind.u8 0 (loR mid * 8)) (loR mb))] 5)).drew w.heap.size (.slice (some ⟨w.heap.size + 1, 0, none⟩) 1 1) [rmI 0 mid (loR mb)] := by
    rw [rmS_0 mid (loR mb) (loR_in mb)]
    have := IsB.lit (w.alloc (.cells #[.int .i64 mb, .int .i64 mi, .int .i64 ms, .int .i64 md] 33)) w.heap.size [rmI 0 mid (loR mb)] 1 rfl #[.int .u8 (rmI 0 mid (loR mb))] rfl (by simp) (by simp)
    rw [World.size_alloc] at this
    exact this
  go_at_call 89
  refine (little_any md 0 _ (by decide) (by omega)).mono ?_
  rintro e w1 ⟨⟨y, rfl, hy⟩, hb1⟩
  have hL1 := hL.later hb1
  have hB : Below w.heap.size w w1 := (below_dr ((bal (bal (Below.refl _ _) _) _))).trans (hb1.mono (by simp; omega))
  have hz2 := hB.size
  clear hL hb1
  go_wp2_with (at_builtin; refine wpList_appB (xs := [rmI 0 mid (loR mb)]) (bs := littleL md 0) (B := w.heap.size) rfl _ _ rfl rfl rfl hL1 hy hz2 (by rw [littleL_length]; simp) ?_; intro v' w' hB' hb')
  go_ret
  exact ⟨⟨_, rfl, hB'⟩, hB.trans hb'⟩
theorem place_V1a_S0 (mid mb mi ms md : Int) (w : World) (hm : 0 ≤ mid ∧ mid ≤ 15) (hb : 0 ≤ mb ∧ mb ≤ 15)  (hd : -2147483648 ≤ md ∧ md ≤ 2147483647)
    (c0 : (md == 0) = true) (c5 : (loR mb != 5) = false) (c8 : (md == wrap64 (IntKind.i8.wrap md)) = true) (ci : (mi != -1) = false) (c4 : (loR mb == 4) = false) :
    Calls Try.prog 90 #[.int .i64 mid, .agg #[.int .i64 mb, .int .i64 mi, .int .i64 ms, .int .i64 md]] w fun e w' => RetB w.heap.size (rmI 1 mid (loR mb) :: littleL md 1) e w' ∧ Below w.heap.size w w' := by
  have l1 := loR_in mid
  have l2 := loR_in mb
  go_enter Try.func90, Try.ntmps90
  go_wp2_with (go_at_call 88; refine (low_any _ _ (by assumption)).mono ?_; rintro e w' ⟨rfl, rfl⟩)
  refine still_tail 10 (by kernel_rfl) (by kernel_rfl) ?_
  simp only [List.take_succ_cons, List.take_zero, List.drop_succ_cons, List.drop_zero]
  repeat (first | still_step | still_call (low_same _ _ hm) | still_call (low_same _ _ hb))
  refine wpStill_nil ?_
  go_wp2_with (go_at_call 88; refine (low_any _ _ (by assumption)).mono ?_; rintro e w' ⟨rfl, rfl⟩)
  have hL : IsB ((w.alloc (.cells #[.int .i64 mb, .int .i64 mi, .int .i64 ms, .int .i64 md] 33)).alloc (.cells #[.int .u8 (bits BinOp.or IntKind.u8 (bits BinOp.or IntKind.u8 64 (loR mid * 8)) (loR mb))] 5)).drew w.heap.size (.slice (some ⟨w.heap.size + 1, 0, none⟩) 1 1) [rmI 1 mid (loR mb)] := by
    rw [rmS_64 mid (loR mb) (loR_in mb)]
    have := IsB.lit (w.alloc (.cells #[.int .i64 mb, .int .i64 mi, .int .i64 ms, .int .i64 md] 33)) w.heap.size [rmI 1 mid (loR mb)] 1 rfl #[.int .u8 (rmI 1 mid (loR mb))] rfl (by simp) (by simp)
    rw [World.size_alloc] at this
    exact this
  go_at_call 89
  refine (little_any md 1 _ (by decide) (by omega)).mono ?_
  rintro e w1 ⟨⟨y, rfl, hy⟩, hb1⟩
  have hL1 := hL.later hb1
  have hB : Below w.heap.size w w1 := (below_dr ((bal (bal (Below.refl _ _) _) _))).trans (hb1.mono (by simp; omega))
  have hz2 := hB.size
  clear hL hb1
  go_wp2_with (at_builtin; refine wpList_appB (xs := [rmI 1 mid (loR mb)]) (bs := littleL md 1) (B := w.heap.size) rfl _ _ rfl rfl rfl hL1 hy hz2 (by rw [littleL_length]; simp) ?_; intro v' w' hB' hb')
  go_ret
  exact ⟨⟨_, rfl, hB'⟩, hB.trans hb'⟩
theorem place_V1b_S0 (mid mb mi ms md : Int) (w : World) (hm : 0 ≤ mid ∧ mid ≤ 15) (hb : 0 ≤ mb ∧ mb ≤ 15)  (hd : -2147483648 ≤ md ∧ md ≤ 2147483647)
    (c0 : (md == 0) = false) (c8 : (md == wrap64 (IntKind.i8.wrap md)) = true) (ci : (mi != -1) = false) (c4 : (loR mb == 4) = false) :
    Calls Try.prog 90 #[.int .i64 mid, .agg #[.int .i64 mb, .int .i64 mi, .int .i64 ms, .int .i64 md]] w fun e w' => RetB w.heap.size (rmI 1 mid (loR mb) :: littleL md 1) e w' ∧ Below w.heap.size w w' := by
  have l1 := loR_in mid
  have l2 := loR_in mb
  go_enter Try.func90, Try.ntmps90
  go_wp2_with (go_at_call 88; refine (low_any _ _ (by assumption)).mono ?_; rintro e w' ⟨rfl, rfl⟩)
  refine still_tail 10 (by kernel_rfl) (by kernel_rfl) ?_
  simp only [List.take_succ_cons, List.take_zero, List.drop_succ_cons, List.drop_zero]
  repeat (first | still_step | still_call (low_same _ _ hm) | still_call (low_same _ _ hb))
  refine wpStill_nil ?_
  go_wp2_with (go_at_call 88; refine (low_any _ _ (by assumption)).mono ?_; rintro e w' ⟨rfl, rfl⟩)
  have hL : IsB ((w.alloc (.cells #[.int .i64 mb, .int .i64 mi, .int .i64 ms, .int .i64 md] 33)).alloc (.cells #[.int .u8 (bits BinOp.or IntKind.u8 (bits BinOp.or IntKind.u8 64 (loR mid * 8)) (loR mb))] 5)).drew w.heap.size (.slice (some ⟨w.heap.size + 1, 0, none⟩) 1 1) [rmI 1 mid (loR mb)] := by
    rw [rmS_64 mid (loR mb) (loR_in mb)]
    have := IsB.lit (w.alloc (.cells #[.int .i64 mb, .int .i64 mi, .int .i64 ms, .int .i64 md] 33)) w.heap.size [rmI 1 mid (loR mb)] 1 rfl #[.int .u8 (rmI 1 mid (loR mb))] rfl (by simp) (by simp)
    rw [World.size_alloc] at this
    exact this
  go_at_call 89
  refine (little_any md 1 _ (by decide) (by omega)).mono ?_
  rintro e w1 ⟨⟨y, rfl, hy⟩, hb1⟩
  have hL1 := hL.later hb1
  have hB : Below w.heap.size w w1 := (below_dr ((bal (bal (Below.refl _ _) _) _))).trans (hb1.mono (by simp; omega))
  have hz2 := hB.size
  clear hL hb1
  go_wp2_with (at_builtin; refine wpList_appB (xs := [rmI 1 mid (loR mb)]) (bs := littleL md 1) (B := w.heap.size) rfl _ _ rfl rfl rfl hL1 hy hz2 (by rw [littleL_length]; simp) ?_; intro v' w' hB' hb')
  go_ret
  exact ⟨⟨_, rfl, hB'⟩, hB.trans hb'⟩
theorem place_V2_S0 (mid mb mi ms md : Int) (w : World) (hm : 0 ≤ mid ∧ mid ≤ 15) (hb : 0 ≤ mb ∧ mb ≤ 15)  (hd : -2147483648 ≤ md ∧ md ≤ 2147483647)
    (c0 : (md == 0) = false) (c8 : (md == wrap64 (IntKind.i8.wrap md)) = false) (ci : (mi != -1) = false) (c4 : (loR mb == 4) = false) :
    Calls Try.prog 90 #[.int .i64 mid, .agg #[.int .i64 mb, .int .i64 mi, .int .i64 ms, .int .i64 md]] w fun e w' => RetB w.heap.size (rmI 2 mid (loR mb) :: littleL md 4) e w' ∧ Below w.heap.size w w' := by
  have l1 := loR_in mid
  have l2 := loR_in mb
  go_enter Try.func90, Try.ntmps90
  go_wp2_with (go_at_call 88; refine (low_any _ _ (by assumption)).mono ?_; rintro e w' ⟨rfl, rfl⟩)
  refine still_tail 10 (by kernel_rfl) (by kernel_rfl) ?_
  simp only [List.take_succ_cons, List.take_zero, List.drop_succ_cons, List.drop_zero]
  repeat (first | still_step | still_call (low_same _ _ hm) | still_call (low_same _ _ hb))
  refine wpStill_nil ?_
  go_wp2_with (go_at_call 88; refine (low_any _ _ (by assumption)).mono ?_; rintro e w' ⟨rfl, rfl⟩)
  have hL : IsB ((w.alloc (.cells #[.int .i64 mb, .int .i64 mi, .int .i64 ms, .int .i64 md] 33)).alloc (.cells #[.int .u8 (bits BinOp.or IntKind.u8 (128 + loR mid * 8) (loR mb))] 5)).drew w.heap.size (.slice (some ⟨w.heap.size + 1, 0, none⟩) 1 1) [rmI 2 mid (loR mb)] := by
    rw [rmS_128 mid (loR mb) (loR_in mb)]
    have := IsB.lit (w.alloc (.cells #[.int .i64 mb, .int .i64 mi, .int .i64 ms, .int .i64 md] 33)) w.heap.size [rmI 2 mid (loR mb)] 1 rfl #[.int .u8 (rmI 2 mid (loR mb))] rfl (by simp) (by simp)
    rw [World.size_alloc] at this
    exact this
  go_at_call 89
  refine (little_any md 4 _ (by decide) (by omega)).mono ?_
  rintro e w1 ⟨⟨y, rfl, hy⟩, hb1⟩
  have hL1 := hL.later hb1
  have hB : Below w.heap.size w w1 := (below_dr ((bal (bal (Below.refl _ _) _) _))).trans (hb1.mono (by simp; omega))
  have hz2 := hB.size
  clear hL hb1
  go_wp2_with (at_builtin; refine wpList_appB (xs := [rmI 2 mid (loR mb)]) (bs := littleL md 4) (B := w.heap.size) rfl _ _ rfl rfl rfl hL1 hy hz2 (by rw [littleL_length]; simp) ?_; intro v' w' hB' hb')
  go_ret
  exact ⟨⟨_, rfl, hB'⟩, hB.trans hb'⟩
end Go.Proofs.Ytbcaelhchmoigaa
namespace Go.Proofs.Ytbcaelhchmoigaa
open Go.RowKit Calm
attribute [local irreducible] loR
theorem place_V0_S1 (mid mb mi ms md : Int) (w : World) (hm : 0 ≤ mid ∧ mid ≤ 15) (hb : 0 ≤ mb ∧ mb ≤ 15) (hms : ms = 1 ∨ ms = 2 ∨ ms = 4 ∨ ms = 8) (hd : -2147483648 ≤ md ∧ md ≤ 2147483647)
    (c0 : (md == 0) = true) (c5 : (loR mb != 5) = true) (ci : (mi != -1) = true) (hmi : 0 ≤ mi ∧ mi ≤ 15) :
    Calls Try.prog 90 #[.int .i64 mid, .agg #[.int .i64 mb, .int .i64 mi, .int .i64 ms, .int .i64 md]] w fun e w' => RetB w.heap.size (rmI 0 mid 4 :: sibI ms (loR mi) mb :: littleL md 0) e w' ∧ Below w.heap.size w w' := by
  have l1 := loR_in mid
  have l2 := loR_in mb
  have l3 := loR_in mi
  go_enter Try.func90, Try.ntmps90
  go_wp2_with (go_at_call 88; refine (low_any _ _ (by assumption)).mono ?_; rintro e w' ⟨rfl, rfl⟩)
  refine still_tail 10 (by kernel_rfl) (by kernel_rfl) ?_
  simp only [List.take_succ_cons, List.take_zero, List.drop_succ_cons, List.drop_zero]
  repeat (first | still_step | still_call (low_same _ _ hm) | still_call (low_same _ _ hb))
  refine wpStill_nil ?_
  go_wp2_with (go_at_call 88; refine (low_any _ _ (by assumption)).mono ?_; rintro e w' ⟨rfl, rfl⟩)
  obtain ⟨W, hW⟩ : ∃ W, ((w.alloc (.cells #[.int .i64 mb, .int .i64 mi, .int .i64 ms, .int .i64 md] 33)).alloc (.cells #[.int .u8 (bits BinOp.or IntKind.u8 (bits BinOp.or IntKind.u8 0 (loR mid * 8)) (loR mb))] 5)).drew = W := ⟨_, rfl⟩
  rw [hW]
  have hbW : Below w.heap.size w W := by rw [← hW]; exact below_dr (bal (bal (Below.refl _ _) _) _)
  have s0 : W.cell? ⟨w.heap.size, 0, none⟩ = some (.int .i64 mb) := by subst hW; go_simp
  have s2 : W.cell? ⟨w.heap.size, 2, none⟩ = some (.int .i64 ms) := by subst hW; go_simp
  have s3 : W.cell? ⟨w.heap.size, 3, none⟩ = some (.int .i64 md) := by subst hW; go_simp
  have hz0 : w.heap.size < W.heap.size := by subst hW; simp; omega
  have look : (Instr.lookup 121 (.map (some W.heap.size)) (.int .i64 ms) false).run Try.prog (W.alloc (.map scalesE 4)).drew = .ok (.int .u8 (scaleI ms)) (W.alloc (.map scalesE 4)).drew := look_scale W.drew W.heap.size rfl ms hms
  clear hW
  go_region_held3 (fun V : World => V.cell? ⟨w.heap.size, 0, none⟩ = some (.int .i64 mb) ∧ V.cell? ⟨w.heap.size, 2, none⟩ = some (.int .i64 ms)) (first | exact ⟨s0, s2⟩ | (constructor <;> go_simp)) (first | (go_at_call 88; refine (low_any _ _ (by assumption)).mono ?_; rintro e w' ⟨rfl, rfl⟩) | (go_at_call 99; refine (scales_any _).mono ?_; rintro e w' ⟨rfl, rfl⟩))
  all_goals
    clear look
    have hL : IsB ((W.alloc (.map scalesE 4)).alloc (.cells #[.int .u8 (bits BinOp.or IntKind.u8 (bits BinOp.or IntKind.u8 0 (loR mid * 8)) 4), .int .u8 (bits BinOp.or IntKind.u8 (bits BinOp.or IntKind.u8 (scaleI ms * 64 % 256) (loR mi * 8)) (loR mb))] 5)).drew w.heap.size (.slice (some ⟨W.heap.size + 1, 0, none⟩) 2 2) [rmI 0 mid 4, sibI ms (loR mi) mb] := by
      rw [rmS_0 mid 4 (by omega), sib_form ms (loR mi) mb (loR_in mi)]
      have := IsB.lit (W.alloc (.map scalesE 4)) w.heap.size [rmI 0 mid 4, sibI ms (loR mi) mb] 2 rfl #[.int .u8 (rmI 0 mid 4), .int .u8 (sibI ms (loR mi) mb)] rfl (by simp; omega) (by simp)
      rw [World.size_alloc] at this
      exact this
    go_wp2_with (go_at_call 88; refine (low_any _ _ (by assumption)).mono ?_; rintro e w' ⟨rfl, rfl⟩)
    go_at_call 89
    refine (little_any md 0 _ (by decide) (by omega)).mono ?_
    rintro e w1 ⟨⟨y, rfl, hy⟩, hb1⟩
    have hL1 := hL.later hb1
    have hB : Below w.heap.size w w1 := (below_dr (bal (bal hbW _) _)).trans (hb1.mono (by simp; omega))
    have hz2 := hB.size
    clear hL hb1
    go_wp2_with (at_builtin; refine wpList_appB (xs := [rmI 0 mid 4, sibI ms (loR mi) mb]) (bs := littleL md 0) (B := w.heap.size) rfl _ _ rfl rfl rfl hL1 hy hz2 (by rw [littleL_length]; simp) ?_; intro v' w' hB' hb')
    go_ret
    exact ⟨⟨_, rfl, hB'⟩, hB.trans hb'⟩
theorem place_V1a_S1 (mid mb mi ms md : Int) (w : World) (hm : 0 ≤ mid ∧ mid ≤ 15) (hb : 0 ≤ mb ∧ mb ≤ 15) (hms : ms = 1 ∨ ms = 2 ∨ ms = 4 ∨ ms = 8) (hd : -2147483648 ≤ md ∧ md ≤ 2147483647)
    (c0 : (md == 0) = true) (c5 : (loR mb != 5) = false) (c8 : (md == wrap64 (IntKind.i8.wrap md)) = true) (ci : (mi != -1) = true) (hmi : 0 ≤ mi ∧ mi ≤ 15) :
    Calls Try.prog 90 #[.int .i64 mid, .agg #[.int .i64 mb, .int .i64 mi, .int .i64 ms, .int .i64 md]] w fun e w' => RetB w.heap.size (rmI 1 mid 4 :: sibI ms (loR mi) mb :: littleL md 1) e w' ∧ Below w.heap.size w w' := by
  have l1 := loR_in mid
  have l2 := loR_in mb
  have l3 := loR_in mi
  go_enter Try.func90, Try.ntmps90
  go_wp2_with (go_at_call 88; refine (low_any _ _ (by assumption)).mono ?_; rintro e w' ⟨rfl, rfl⟩)
  refine still_tail 10 (by kernel_rfl) (by kernel_rfl) ?_
  simp only [List.take_succ_cons, List.take_zero, List.drop_succ_cons, List.drop_zero]
  repeat (first | still_step | still_call (low_same _ _ hm) | still_call (low_same _ _ hb))
  refine wpStill_nil ?_
  go_wp2_with (go_at_call 88; refine (low_any _ _ (by assumption)).mono ?_; rintro e w' ⟨rfl, rfl⟩)
  obtain ⟨W, hW⟩ : ∃ W, ((w.alloc (.cells #[.int .i64 mb, .int .i64 mi, .int .i64 ms, .int .i64 md] 33)).alloc (.cells #[.int .u8 (bits BinOp.or IntKind.u8 (bits BinOp.or IntKind.u8 64 (loR mid * 8)) (loR mb))] 5)).drew = W := ⟨_, rfl⟩
  rw [hW]
  have hbW : Below w.heap.size w W := by rw [← hW]; exact below_dr (bal (bal (Below.refl _ _) _) _)
  have s0 : W.cell? ⟨w.heap.size, 0, none⟩ = some (.int .i64 mb) := by subst hW; go_simp
  have s2 : W.cell? ⟨w.heap.size, 2, none⟩ = some (.int .i64 ms) := by subst hW; go_simp
  have s3 : W.cell? ⟨w.heap.size, 3, none⟩ = some (.int .i64 md) := by subst hW; go_simp
  have hz0 : w.heap.size < W.heap.size := by subst hW; simp; omega
  have look : (Instr.lookup 121 (.map (some W.heap.size)) (.int .i64 ms) false).run Try.prog (W.alloc (.map scalesE 4)).drew = .ok (.int .u8 (scaleI ms)) (W.alloc (.map scalesE 4)).drew := look_scale W.drew W.heap.size rfl ms hms
  clear hW
  go_region_held3 (fun V : World => V.cell? ⟨w.heap.size, 0, none⟩ = some (.int .i64 mb) ∧ V.cell? ⟨w.heap.size, 2, none⟩ = some (.int .i64 ms)) (first | exact ⟨s0, s2⟩ | (constructor <;> go_simp)) (first | (go_at_call 88; refine (low_any _ _ (by assumption)).mono ?_; rintro e w' ⟨rfl, rfl⟩) | (go_at_call 99; refine (scales_any _).mono ?_; rintro e w' ⟨rfl, rfl⟩))
  all_goals
    clear look
    have hL : IsB ((W.alloc (.map scalesE 4)).alloc (.cells #[.int .u8 (bits BinOp.or IntKind.u8 (bits BinOp.or IntKind.u8 64 (loR mid * 8)) 4), .int .u8 (bits BinOp.or IntKind.u8 (bits BinOp.or IntKind.u8 (scaleI ms * 64 % 256) (loR mi * 8)) (loR mb))] 5)).drew w.heap.size (.slice (some ⟨W.heap.size + 1, 0, none⟩) 2 2) [rmI 1 mid 4, sibI ms (loR mi) mb] := by
      rw [rmS_64 mid 4 (by omega), sib_form ms (loR mi) mb (loR_in mi)]
      have := IsB.lit (W.alloc (.map scalesE 4)) w.heap.size [rmI 1 mid 4, sibI ms (loR mi) mb] 2 rfl #[.int .u8 (rmI 1 mid 4), .int .u8 (sibI ms (loR mi) mb)] rfl (by simp; omega) (by simp)
      rw [World.size_alloc] at this
      exact this
    go_wp2_with (go_at_call 88; refine (low_any _ _ (by assumption)).mono ?_; rintro e w' ⟨rfl, rfl⟩)
    go_at_call 89
    refine (little_any md 1 _ (by decide) (by omega)).mono ?_
    rintro e w1 ⟨⟨y, rfl, hy⟩, hb1⟩
    have hL1 := hL.later hb1
    have hB : Below w.heap.size w w1 := (below_dr (bal (bal hbW _) _)).trans (hb1.mono (by simp; omega))
    have hz2 := hB.size
    clear hL hb1
    go_wp2_with (at_builtin; refine wpList_appB (xs := [rmI 1 mid 4, sibI ms (loR mi) mb]) (bs := littleL md 1) (B := w.heap.size) rfl _ _ rfl rfl rfl hL1 hy hz2 (by rw [littleL_length]; simp) ?_; intro v' w' hB' hb')
    go_ret
    exact ⟨⟨_, rfl, hB'⟩, hB.trans hb'⟩
theorem place_V1b_S1 (mid mb mi ms md : Int) (w : World) (hm : 0 ≤ mid ∧ mid ≤ 15) (hb : 0 ≤ mb ∧ mb ≤ 15) (hms : ms = 1 ∨ ms = 2 ∨ ms = 4 ∨ ms = 8) (hd : -2147483648 ≤ md ∧ md ≤ 2147483647)
    (c0 : (md == 0) = false) (c8 : (md == wrap64 (IntKind.i8.wrap md)) = true) (ci : (mi != -1) = true) (hmi : 0 ≤ mi ∧ mi ≤ 15) :
    Calls Try.prog 90 #[.int .i64 mid, .agg #[.int .i64 mb, .int .i64 mi, .int .i64 ms, .int .i64 md]] w fun e w' => RetB w.heap.size (rmI 1 mid 4 :: sibI ms (loR mi) mb :: littleL md 1) e w' ∧ Below w.heap.size w w' := by
  have l1 := loR_in mid
  have l2 := loR_in mb
  have l3 := loR_in mi
  go_enter Try.func90, Try.ntmps90
  go_wp2_with (go_at_call 88; refine (low_any _ _ (by assumption)).mono ?_; rintro e w' ⟨rfl, rfl⟩)
  refine still_tail 10 (by kernel_rfl) (by kernel_rfl) ?_
  simp only [List.take_succ_cons, List.take_zero, List.drop_succ_cons, List.drop_zero]
  repeat (first | still_step | still_call (low_same _ _ hm) | still_call (low_same _ _ hb))
  refine wpStill_nil ?_
  go_wp2_with (go_at_call 88; refine (low_any _ _ (by assumption)).mono ?_; rintro e w' ⟨rfl, rfl⟩)
  obtain ⟨W, hW⟩ : ∃ W, ((w.alloc (.cells #[.int .i64 mb, .int .i64 mi, .int .i64 ms, .int .i64 md] 33)).alloc (.cells #[.int .u8 (bits BinOp.or IntKind.u8 (bits BinOp.or IntKind.u8 64 (loR mid * 8)) (loR mb))] 5)).drew = W := ⟨_, rfl⟩
  rw [hW]
  have hbW : Below w.heap.size w W := by rw [← hW]; exact below_dr (bal (bal (Below.refl _ _) _) _)
  have s0 : W.cell? ⟨w.heap.size, 0, none⟩ = some (.int .i64 mb) := by subst hW; go_simp
  have s2 : W.cell? ⟨w.heap.size, 2, none⟩ = some (.int .i64 ms) := by subst hW; go_simp
  have s3 : W.cell? ⟨w.heap.size, 3, none⟩ = some (.int .i64 md) := by subst hW; go_simp
  have hz0 : w.heap.size < W.heap.size := by subst hW; simp; omega
  have look : (Instr.lookup 121 (.map (some W.heap.size)) (.int .i64 ms) false).run Try.prog (W.alloc (.map scalesE 4)).drew = .ok (.int .u8 (scaleI ms)) (W.alloc (.map scalesE 4)).drew := look_scale W.drew W.heap.size rfl ms hms
  clear hW
  go_region_held3 (fun V : World => V.cell? ⟨w.heap.size, 0, none⟩ = some (.int .i64 mb) ∧ V.cell? ⟨w.heap.size, 2, none⟩ = some (.int .i64 ms)) (first | exact ⟨s0, s2⟩ | (constructor <;> go_simp)) (first | (go_at_call 88; refine (low_any _ _ (by assumption)).mono ?_; rintro e w' ⟨rfl, rfl⟩) | (go_at_call 99; refine (scales_any _).mono ?_; rintro e w' ⟨rfl, rfl⟩))
  all_goals
    clear look
    have hL : IsB ((W.alloc (.map scalesE 4)).alloc (.cells #[.int .u8 (bits BinOp.or IntKind.u8 (bits BinOp.or IntKind.u8 64 (loR mid * 8)) 4), .int .u8 (bits BinOp.or IntKind.u8 (bits BinOp.or IntKind.u8 (scaleI ms * 64 % 256) (loR mi * 8)) (loR mb))] 5)).drew w.heap.size (.slice (some ⟨W.heap.size + 1, 0, none⟩) 2 2) [rmI 1 mid 4, sibI ms (loR mi) mb] := by
      rw [rmS_64 mid 4 (by omega), sib_form ms (loR mi) mb (loR_in mi)]
      have := IsB.lit (W.alloc (.map scalesE 4)) w.heap.size [rmI 1 mid 4, sibI ms (loR mi) mb] 2 rfl #[.int .u8 (rmI 1 mid 4), .int .u8 (sibI ms (loR mi) mb)] rfl (by simp; omega) (by simp)
      rw [World.size_alloc] at this
      exact this
    go_wp2_with (go_at_call 88; refine (low_any _ _ (by assumption)).mono ?_; rintro e w' ⟨rfl, rfl⟩)
    go_at_call 89
    refine (little_any md 1 _ (by decide) (by omega)).mono ?_
    rintro e w1 ⟨⟨y, rfl, hy⟩, hb1⟩
    have hL1 := hL.later hb1
    have hB : Below w.heap.size w w1 := (below_dr (bal (bal hbW _) _)).trans (hb1.mono (by simp; omega))
    have hz2 := hB.size
    clear hL hb1
    go_wp2_with (at_builtin; refine wpList_appB (xs := [rmI 1 mid 4, sibI ms (loR mi) mb]) (bs := littleL md 1) (B := w.heap.size) rfl _ _ rfl rfl rfl hL1 hy hz2 (by rw [littleL_length]; simp) ?_; intro v' w' hB' hb')
    go_ret
    exact ⟨⟨_, rfl, hB'⟩, hB.trans hb'⟩
theorem place_V2_S1 (mid mb mi ms md : Int) (w : World) (hm : 0 ≤ mid ∧ mid ≤ 15) (hb : 0 ≤ mb ∧ mb ≤ 15) (hms : ms = 1 ∨ ms = 2 ∨ ms = 4 ∨ ms = 8) (hd : -2147483648 ≤ md ∧ md ≤ 2147483647)
    (c0 : (md == 0) = false) (c8 : (md == wrap64 (IntKind.i8.wrap md)) = false) (ci : (mi != -1) = true) (hmi : 0 ≤ mi ∧ mi ≤ 15) :
    Calls Try.prog 90 #[.int .i64 mid, .agg #[.int .i64 mb, .int .i64 mi, .int .i64 ms, .int .i64 md]] w fun e w' => RetB w.heap.size (rmI 2 mid 4 :: sibI ms (loR mi) mb :: littleL md 4) e w' ∧ Below w.heap.size w w' := by
  have l1 := loR_in mid
  have l2 := loR_in mb
  have l3 := loR_in mi
  go_enter Try.func90, Try.ntmps90
  go_wp2_with (go_at_call 88; refine (low_any _ _ (by assumption)).mono ?_; rintro e w' ⟨rfl, rfl⟩)
  refine still_tail 10 (by kernel_rfl) (by kernel_rfl) ?_
  simp only [List.take_succ_cons, List.take_zero, List.drop_succ_cons, List.drop_zero]
  repeat (first | still_step | still_call (low_same _ _ hm) | still_call (low_same _ _ hb))
  refine wpStill_nil ?_
  go_wp2_with (go_at_call 88; refine (low_any _ _ (by assumption)).mono ?_; rintro e w' ⟨rfl, rfl⟩)
  obtain ⟨W, hW⟩ : ∃ W, ((w.alloc (.cells #[.int .i64 mb, .int .i64 mi, .int .i64 ms, .int .i64 md] 33)).alloc (.cells #[.int .u8 (bits BinOp.or IntKind.u8 (128 + loR mid * 8) (loR mb))] 5)).drew = W := ⟨_, rfl⟩
  rw [hW]
  have hbW : Below w.heap.size w W := by rw [← hW]; exact below_dr (bal (bal (Below.refl _ _) _) _)
  have s0 : W.cell? ⟨w.heap.size, 0, none⟩ = some (.int .i64 mb) := by subst hW; go_simp
  have s2 : W.cell? ⟨w.heap.size, 2, none⟩ = some (.int .i64 ms) := by subst hW; go_simp
  have s3 : W.cell? ⟨w.heap.size, 3, none⟩ = some (.int .i64 md) := by subst hW; go_simp
  have hz0 : w.heap.size < W.heap.size := by subst hW; simp; omega
  have look : (Instr.lookup 121 (.map (some W.heap.size)) (.int .i64 ms) false).run Try.prog (W.alloc (.map scalesE 4)).drew = .ok (.int .u8 (scaleI ms)) (W.alloc (.map scalesE 4)).drew := look_scale W.drew W.heap.size rfl ms hms
  clear hW
  go_region_held3 (fun V : World => V.cell? ⟨w.heap.size, 0, none⟩ = some (.int .i64 mb) ∧ V.cell? ⟨w.heap.size, 2, none⟩ = some (.int .i64 ms)) (first | exact ⟨s0, s2⟩ | (constructor <;> go_simp)) (first | (go_at_call 88; refine (low_any _ _ (by assumption)).mono ?_; rintro e w' ⟨rfl, rfl⟩) | (go_at_call 99; refine (scales_any _).mono ?_; rintro e w' ⟨rfl, rfl⟩))
  all_goals
    clear look
    have hL : IsB ((W.alloc (.map scalesE 4)).alloc (.cells #[.int .u8 (bits BinOp.or IntKind.u8 (128 + loR mid * 8) 4), .int .u8 (bits BinOp.or IntKind.u8 (bits BinOp.or IntKind.u8 (scaleI ms * 64 % 256) (loR mi * 8)) (loR mb))] 5)).drew w.heap.size (.slice (some ⟨W.heap.size + 1, 0, none⟩) 2 2) [rmI 2 mid 4, sibI ms (loR mi) mb] := by
      rw [rmS_128 mid 4 (by omega), sib_form ms (loR mi) mb (loR_in mi)]
      have := IsB.lit (W.alloc (.map scalesE 4)) w.heap.size [rmI 2 mid 4, sibI ms (loR mi) mb] 2 rfl #[.int .u8 (rmI 2 mid 4), .int .u8 (sibI ms (loR mi) mb)] rfl (by simp; omega) (by simp)
      rw [World.size_alloc] at this
      exact this
    go_wp2_with (go_at_call 88; refine (low_any _ _ (by assumption)).mono ?_; rintro e w' ⟨rfl, rfl⟩)
    go_at_call 89
    refine (little_any md 4 _ (by decide) (by omega)).mono ?_
    rintro e w1 ⟨⟨y, rfl, hy⟩, hb1⟩
    have hL1 := hL.later hb1
    have hB : Below w.heap.size w w1 := (below_dr (bal (bal hbW _) _)).trans (hb1.mono (by simp; omega))
    have hz2 := hB.size
    clear hL hb1
    go_wp2_with (at_builtin; refine wpList_appB (xs := [rmI 2 mid 4, sibI ms (loR mi) mb]) (bs := littleL md 4) (B := w.heap.size) rfl _ _ rfl rfl rfl hL1 hy hz2 (by rw [littleL_length]; simp) ?_; intro v' w' hB' hb')
    go_ret
    exact ⟨⟨_, rfl, hB'⟩, hB.trans hb'⟩
end Go.Proofs.Ytbcaelhchmoigaa
namespace Go.Proofs.Ytbcaelhchmoigaa
open Go.RowKit Calm
attribute [local irreducible] loR
theorem place_V0_S2 (mid mb mi ms md : Int) (w : World) (hm : 0 ≤ mid ∧ mid ≤ 15) (hb : 0 ≤ mb ∧ mb ≤ 15) (hms : ms = 1 ∨ ms = 2 ∨ ms = 4 ∨ ms = 8) (hd : -2147483648 ≤ md ∧ md ≤ 2147483647)
    (c0 : (md == 0) = true) (c5 : (loR mb != 5) = true) (ci : (mi != -1) = false) (c4 : (loR mb == 4) = true) :
    Calls Try.prog 90 #[.int .i64 mid, .agg #[.int .i64 mb, .int .i64 mi, .int .i64 ms, .int .i64 md]] w fun e w' => RetB w.heap.size (rmI 0 mid 4 :: sibI ms 4 mb :: littleL md 0) e w' ∧ Below w.heap.size w w' := by
  have l1 := loR_in mid
  have l2 := loR_in mb
  go_enter Try.func90, Try.ntmps90
  go_wp2_with (go_at_call 88; refine (low_any _ _ (by assumption)).mono ?_; rintro e w' ⟨rfl, rfl⟩)
  refine still_tail 10 (by kernel_rfl) (by kernel_rfl) ?_
  simp only [List.take_succ_cons, List.take_zero, List.drop_succ_cons, List.drop_zero]
  repeat (first | still_step | still_call (low_same _ _ hm) | still_call (low_same _ _ hb))
  refine wpStill_nil ?_
  go_wp2_with (go_at_call 88; refine (low_any _ _ (by assumption)).mono ?_; rintro e w' ⟨rfl, rfl⟩)
  obtain ⟨W, hW⟩ : ∃ W, ((w.alloc (.cells #[.int .i64 mb, .int .i64 mi, .int .i64 ms, .int .i64 md] 33)).alloc (.cells #[.int .u8 (bits BinOp.or IntKind.u8 (bits BinOp.or IntKind.u8 0 (loR mid * 8)) (loR mb))] 5)).drew = W := ⟨_, rfl⟩
  rw [hW]
  have hbW : Below w.heap.size w W := by rw [← hW]; exact below_dr (bal (bal (Below.refl _ _) _) _)
  have s0 : W.cell? ⟨w.heap.size, 0, none⟩ = some (.int .i64 mb) := by subst hW; go_simp
  have s2 : W.cell? ⟨w.heap.size, 2, none⟩ = some (.int .i64 ms) := by subst hW; go_simp
  have s3 : W.cell? ⟨w.heap.size, 3, none⟩ = some (.int .i64 md) := by subst hW; go_simp
  have hz0 : w.heap.size < W.heap.size := by subst hW; simp; omega
  have look : (Instr.lookup 121 (.map (some W.heap.size)) (.int .i64 ms) false).run Try.prog (W.alloc (.map scalesE 4)).drew = .ok (.int .u8 (scaleI ms)) (W.alloc (.map scalesE 4)).drew := look_scale W.drew W.heap.size rfl ms hms
  clear hW
  go_region_held3 (fun V : World => V.cell? ⟨w.heap.size, 0, none⟩ = some (.int .i64 mb) ∧ V.cell? ⟨w.heap.size, 2, none⟩ = some (.int .i64 ms)) (first | exact ⟨s0, s2⟩ | (constructor <;> go_simp)) (first | (go_at_call 88; refine (low_any _ _ (by assumption)).mono ?_; rintro e w' ⟨rfl, rfl⟩) | (go_at_call 99; refine (scales_any _).mono ?_; rintro e w' ⟨rfl, rfl⟩))
  all_goals
    clear look
    have hL : IsB ((W.alloc (.map scalesE 4)).alloc (.cells #[.int .u8 (bits BinOp.or IntKind.u8 (bits BinOp.or IntKind.u8 0 (loR mid * 8)) 4), .int .u8 (bits BinOp.or IntKind.u8 (bits BinOp.or IntKind.u8 (scaleI ms * 64 % 256) 32) (loR mb))] 5)).drew w.heap.size (.slice (some ⟨W.heap.size + 1, 0, none⟩) 2 2) [rmI 0 mid 4, sibI ms 4 mb] := by
      rw [rmS_0 mid 4 (by omega), sib_4 ms mb]
      have := IsB.lit (W.alloc (.map scalesE 4)) w.heap.size [rmI 0 mid 4, sibI ms 4 mb] 2 rfl #[.int .u8 (rmI 0 mid 4), .int .u8 (sibI ms 4 mb)] rfl (by simp; omega) (by simp)
      rw [World.size_alloc] at this
      exact this
    go_wp2_with (go_at_call 88; refine (low_any _ _ (by assumption)).mono ?_; rintro e w' ⟨rfl, rfl⟩)
    go_at_call 89
    refine (little_any md 0 _ (by decide) (by omega)).mono ?_
    rintro e w1 ⟨⟨y, rfl, hy⟩, hb1⟩
    have hL1 := hL.later hb1
    have hB : Below w.heap.size w w1 := (below_dr (bal (bal hbW _) _)).trans (hb1.mono (by simp; omega))
    have hz2 := hB.size
    clear hL hb1
    go_wp2_with (at_builtin; refine wpList_appB (xs := [rmI 0 mid 4, sibI ms 4 mb]) (bs := littleL md 0) (B := w.heap.size) rfl _ _ rfl rfl rfl hL1 hy hz2 (by rw [littleL_length]; simp) ?_; intro v' w' hB' hb')
    go_ret
    exact ⟨⟨_, rfl, hB'⟩, hB.trans hb'⟩
theorem place_V1b_S2 (mid mb mi ms md : Int) (w : World) (hm : 0 ≤ mid ∧ mid ≤ 15) (hb : 0 ≤ mb ∧ mb ≤ 15) (hms : ms = 1 ∨ ms = 2 ∨ ms = 4 ∨ ms = 8) (hd : -2147483648 ≤ md ∧ md ≤ 2147483647)
    (c0 : (md == 0) = false) (c8 : (md == wrap64 (IntKind.i8.wrap md)) = true) (ci : (mi != -1) = false) (c4 : (loR mb == 4) = true) :
    Calls Try.prog 90 #[.int .i64 mid, .agg #[.int .i64 mb, .int .i64 mi, .int .i64 ms, .int .i64 md]] w fun e w' => RetB w.heap.size (rmI 1 mid 4 :: sibI ms 4 mb :: littleL md 1) e w' ∧ Below w.heap.size w w' := by
  have l1 := loR_in mid
  have l2 := loR_in mb
  go_enter Try.func90, Try.ntmps90
  go_wp2_with (go_at_call 88; refine (low_any _ _ (by assumption)).mono ?_; rintro e w' ⟨rfl, rfl⟩)
  refine still_tail 10 (by kernel_rfl) (by kernel_rfl) ?_
  simp only [List.take_succ_cons, List.take_zero, List.drop_succ_cons, List.drop_zero]
  repeat (first | still_step | still_call (low_same _ _ hm) | still_call (low_same _ _ hb))
  refine wpStill_nil ?_
  go_wp2_with (go_at_call 88; refine (low_any _ _ (by assumption)).mono ?_; rintro e w' ⟨rfl, rfl⟩)
  obtain ⟨W, hW⟩ : ∃ W, ((w.alloc (.cells #[.int .i64 mb, .int .i64 mi, .int .i64 ms, .int .i64 md] 33)).alloc (.cells #[.int .u8 (bits BinOp.or IntKind.u8 (bits BinOp.or IntKind.u8 64 (loR mid * 8)) (loR mb))] 5)).drew = W := ⟨_, rfl⟩
  rw [hW]
  have hbW : Below w.heap.size w W := by rw [← hW]; exact below_dr (bal (bal (Below.refl _ _) _) _)
  have s0 : W.cell? ⟨w.heap.size, 0, none⟩ = some (.int .i64 mb) := by subst hW; go_simp
  have s2 : W.cell? ⟨w.heap.size, 2, none⟩ = some (.int .i64 ms) := by subst hW; go_simp
  have s3 : W.cell? ⟨w.heap.size, 3, none⟩ = some (.int .i64 md) := by subst hW; go_simp
  have hz0 : w.heap.size < W.heap.size := by subst hW; simp; omega
  have look : (Instr.lookup 121 (.map (some W.heap.size)) (.int .i64 ms) false).run Try.prog (W.alloc (.map scalesE 4)).drew = .ok (.int .u8 (scaleI ms)) (W.alloc (.map scalesE 4)).drew := look_scale W.drew W.heap.size rfl ms hms
  clear hW
  go_region_held3 (fun V : World => V.cell? ⟨w.heap.size, 0, none⟩ = some (.int .i64 mb) ∧ V.cell? ⟨w.heap.size, 2, none⟩ = some (.int .i64 ms)) (first | exact ⟨s0, s2⟩ | (constructor <;> go_simp)) (first | (go_at_call 88; refine (low_any _ _ (by assumption)).mono ?_; rintro e w' ⟨rfl, rfl⟩) | (go_at_call 99; refine (scales_any _).mono ?_; rintro e w' ⟨rfl, rfl⟩))
  all_goals
    clear look
    have hL : IsB ((W.alloc (.map scalesE 4)).alloc (.cells #[.int .u8 (bits BinOp.or IntKind.u8 (bits BinOp.or IntKind.u8 64 (loR mid * 8)) 4), .int .u8 (bits BinOp.or IntKind.u8 (bits BinOp.or IntKind.u8 (scaleI ms * 64 % 256) 32) (loR mb))] 5)).drew w.heap.size (.slice (some ⟨W.heap.size + 1, 0, none⟩) 2 2) [rmI 1 mid 4, sibI ms 4 mb] := by
      rw [rmS_64 mid 4 (by omega), sib_4 ms mb]
      have := IsB.lit (W.alloc (.map scalesE 4)) w.heap.size [rmI 1 mid 4, sibI ms 4 mb] 2 rfl #[.int .u8 (rmI 1 mid 4), .int .u8 (sibI ms 4 mb)] rfl (by simp; omega) (by simp)
      rw [World.size_alloc] at this
      exact this
    go_wp2_with (go_at_call 88; refine (low_any _ _ (by assumption)).mono ?_; rintro e w' ⟨rfl, rfl⟩)
    go_at_call 89
    refine (little_any md 1 _ (by decide) (by omega)).mono ?_
    rintro e w1 ⟨⟨y, rfl, hy⟩, hb1⟩
    have hL1 := hL.later hb1
    have hB : Below w.heap.size w w1 := (below_dr (bal (bal hbW _) _)).trans (hb1.mono (by simp; omega))
    have hz2 := hB.size
    clear hL hb1
    go_wp2_with (at_builtin; refine wpList_appB (xs := [rmI 1 mid 4, sibI ms 4 mb]) (bs := littleL md 1) (B := w.heap.size) rfl _ _ rfl rfl rfl hL1 hy hz2 (by rw [littleL_length]; simp) ?_; intro v' w' hB' hb')
    go_ret
    exact ⟨⟨_, rfl, hB'⟩, hB.trans hb'⟩
theorem place_V2_S2 (mid mb mi ms md : Int) (w : World) (hm : 0 ≤ mid ∧ mid ≤ 15) (hb : 0 ≤ mb ∧ mb ≤ 15) (hms : ms = 1 ∨ ms = 2 ∨ ms = 4 ∨ ms = 8) (hd : -2147483648 ≤ md ∧ md ≤ 2147483647)
    (c0 : (md == 0) = false) (c8 : (md == wrap64 (IntKind.i8.wrap md)) = false) (ci : (mi != -1) = false) (c4 : (loR mb == 4) = true) :
    Calls Try.prog 90 #[.int .i64 mid, .agg #[.int .i64 mb, .int .i64 mi, .int .i64 ms, .int .i64 md]] w fun e w' => RetB w.heap.size (rmI 2 mid 4 :: sibI ms 4 mb :: littleL md 4) e w' ∧ Below w.heap.size w w' := by
  have l1 := loR_in mid
  have l2 := loR_in mb
  go_enter Try.func90, Try.ntmps90
  go_wp2_with (go_at_call 88; refine (low_any _ _ (by assumption)).mono ?_; rintro e w' ⟨rfl, rfl⟩)
  refine still_tail 10 (by kernel_rfl) (by kernel_rfl) ?_
  simp only [List.take_succ_cons, List.take_zero, List.drop_succ_cons, List.drop_zero]
  repeat (first | still_step | still_call (low_same _ _ hm) | still_call (low_same _ _ hb))
  refine wpStill_nil ?_
  go_wp2_with (go_at_call 88; refine (low_any _ _ (by assumption)).mono ?_; rintro e w' ⟨rfl, rfl⟩)
  obtain ⟨W, hW⟩ : ∃ W, ((w.alloc (.cells #[.int .i64 mb, .int .i64 mi, .int .i64 ms, .int .i64 md] 33)).alloc (.cells #[.int .u8 (bits BinOp.or IntKind.u8 (128 + loR mid * 8) (loR mb))] 5)).drew = W := ⟨_, rfl⟩
  rw [hW]
  have hbW : Below w.heap.size w W := by rw [← hW]; exact below_dr (bal (bal (Below.refl _ _) _) _)
  have s0 : W.cell? ⟨w.heap.size, 0, none⟩ = some (.int .i64 mb) := by subst hW; go_simp
  have s2 : W.cell? ⟨w.heap.size, 2, none⟩ = some (.int .i64 ms) := by subst hW; go_simp
  have s3 : W.cell? ⟨w.heap.size, 3, none⟩ = some (.int .i64 md) := by subst hW; go_simp
  have hz0 : w.heap.size < W.heap.size := by subst hW; simp; omega
  have look : (Instr.lookup 121 (.map (some W.heap.size)) (.int .i64 ms) false).run Try.prog (W.alloc (.map scalesE 4)).drew = .ok (.int .u8 (scaleI ms)) (W.alloc (.map scalesE 4)).drew := look_scale W.drew W.heap.size rfl ms hms
  clear hW
  go_region_held3 (fun V : World => V.cell? ⟨w.heap.size, 0, none⟩ = some (.int .i64 mb) ∧ V.cell? ⟨w.heap.size, 2, none⟩ = some (.int .i64 ms)) (first | exact ⟨s0, s2⟩ | (constructor <;> go_simp)) (first | (go_at_call 88; refine (low_any _ _ (by assumption)).mono ?_; rintro e w' ⟨rfl, rfl⟩) | (go_at_call 99; refine (scales_any _).mono ?_; rintro e w' ⟨rfl, rfl⟩))
  all_goals
    clear look
    have hL : IsB ((W.alloc (.map scalesE 4)).alloc (.cells #[.int .u8 (bits BinOp.or IntKind.u8 (128 + loR mid * 8) 4), .int .u8 (bits BinOp.or IntKind.u8 (bits BinOp.or IntKind.u8 (scaleI ms * 64 % 256) 32) (loR mb))] 5)).drew w.heap.size (.slice (some ⟨W.heap.size + 1, 0, none⟩) 2 2) [rmI 2 mid 4, sibI ms 4 mb] := by
      rw [rmS_128 mid 4 (by omega), sib_4 ms mb]
      have := IsB.lit (W.alloc (.map scalesE 4)) w.heap.size [rmI 2 mid 4, sibI ms 4 mb] 2 rfl #[.int .u8 (rmI 2 mid 4), .int .u8 (sibI ms 4 mb)] rfl (by simp; omega) (by simp)
      rw [World.size_alloc] at this
      exact this
    go_wp2_with (go_at_call 88; refine (low_any _ _ (by assumption)).mono ?_; rintro e w' ⟨rfl, rfl⟩)
    go_at_call 89
    refine (little_any md 4 _ (by decide) (by omega)).mono ?_
    rintro e w1 ⟨⟨y, rfl, hy⟩, hb1⟩
    have hL1 := hL.later hb1
    have hB : Below w.heap.size w w1 := (below_dr (bal (bal hbW _) _)).trans (hb1.mono (by simp; omega))
    have hz2 := hB.size
    clear hL hb1
    go_wp2_with (at_builtin; refine wpList_appB (xs := [rmI 2 mid 4, sibI ms 4 mb]) (bs := littleL md 4) (B := w.heap.size) rfl _ _ rfl rfl rfl hL1 hy hz2 (by rw [littleL_length]; simp) ?_; intro v' w' hB' hb')
    go_ret
    exact ⟨⟨_, rfl, hB'⟩, hB.trans hb'⟩
end Go.Proofs.Ytbcaelhchmoigaa
namespace Go.Proofs.Ytbcaelhchmoigaa
open Go.RowKit Calm
def byteB (n : Int) : Bool := decide (-128 ≤ n) && decide (n ≤ 127)
def modI (mb md : Int) : Int := if md = 0 ∧ loR mb ≠ 5 then 0 else if byteB md then 1 else 2
def lenI (mb md : Int) : Nat := if md = 0 ∧ loR mb ≠ 5 then 0 else if byteB md then 1 else 4
def placeL (mid mb mi ms md : Int) : List Int :=
  if mi ≠ -1 then rmI (modI mb md) mid 4 :: sibI ms (loR mi) mb :: littleL md (lenI mb md)
  else if loR mb = 4 then rmI (modI mb md) mid 4 :: sibI ms 4 mb :: littleL md (lenI mb md)
  else rmI (modI mb md) mid (loR mb) :: littleL md (lenI mb md)
theorem byte_form (n : Int) (h : -2147483648 ≤ n ∧ n ≤ 2147483647) : (n == wrap64 (IntKind.i8.wrap n)) = byteB n := by
  have e : IntKind.i8.wrap n = (n + 128) % 256 - 128 := by
    simp only [IntKind.wrap, IntKind.bits, IntKind.signed]
    simp
    split <;> omega
  rw [e]
  unfold byteB wrap64
  rw [Bool.eq_iff_iff]; simp; omega
theorem plc_facts {mb mi ms md : Int} (h : plc mb mi ms md = true) : (0 ≤ mb ∧ mb ≤ 15) ∧ (-2147483648 ≤ md ∧ md ≤ 2147483647) ∧ (mi = -1 ∨ 0 ≤ mi ∧ mi ≤ 15) ∧ (ms = 1 ∨ ms = 2 ∨ ms = 4 ∨ ms = 8) := by
  unfold plc at h
  simp only [Bool.and_eq_true] at h
  obtain ⟨⟨h1, h2⟩, h3⟩ := h
  simp only [reg, smallB, Bool.and_eq_true, decide_eq_true_eq] at h1 h2
  refine ⟨h1, h2, ?_⟩
  by_cases hm : mi = -1
  · rw [if_pos hm] at h3
    exact ⟨.inl hm, .inl (by simpa using h3)⟩
  · rw [if_neg hm] at h3
    simp [reg] at h3
    exact ⟨.inr h3.1.1, by omega⟩
theorem eplace_any (mid mb mi ms md : Int) (w : World) (hm : 0 ≤ mid ∧ mid ≤ 15) (h : plc mb mi ms md = true) :
    Calls Try.prog 90 #[.int .i64 mid, .agg #[.int .i64 mb, .int .i64 mi, .int .i64 ms, .int .i64 md]] w fun e w' => RetB w.heap.size (placeL mid mb mi ms md) e w' ∧ Below w.heap.size w w' := by
  obtain ⟨hb, hd, hi, hs⟩ := plc_facts h
  have hbf := byte_form md hd
  unfold placeL
  by_cases hi1 : mi = -1
  · have ci : (mi != -1) = false := by simp [hi1]
    rw [if_neg (by simp [hi1])]
    by_cases h4 : loR mb = 4
    · have c4 : (loR mb == 4) = true := by simp [h4]
      rw [if_pos h4]
      by_cases h0 : md = 0
      · by_cases h5 : loR mb = 5
        · omega
        · have hm1 : modI mb md = 0 := by unfold modI; rw [if_pos ⟨h0, h5⟩]
          have hl1 : lenI mb md = 0 := by unfold lenI; rw [if_pos ⟨h0, h5⟩]
          rw [hm1, hl1]
          exact place_V0_S2 mid mb mi ms md w hm hb hs hd (by simp [h0]) (by simp [h5]) ci c4
      · cases hb8 : byteB md with
        | true =>
          have hm1 : modI mb md = 1 := by unfold modI; rw [if_neg (by simp [h0]), hb8]; rfl
          have hl1 : lenI mb md = 1 := by unfold lenI; rw [if_neg (by simp [h0]), hb8]; rfl
          rw [hm1, hl1]
          exact place_V1b_S2 mid mb mi ms md w hm hb hs hd (by simp [h0]) (by rw [hbf, hb8]) ci c4
        | false =>
          have hm1 : modI mb md = 2 := by unfold modI; rw [if_neg (by simp [h0]), hb8]; rfl
          have hl1 : lenI mb md = 4 := by unfold lenI; rw [if_neg (by simp [h0]), hb8]; rfl
          rw [hm1, hl1]
          exact place_V2_S2 mid mb mi ms md w hm hb hs hd (by simp [h0]) (by rw [hbf, hb8]) ci c4
    · have c4 : (loR mb == 4) = false := by simpa using h4
      rw [if_neg h4]
      by_cases h0 : md = 0
      · by_cases h5 : loR mb = 5
        · have hb8 : byteB md = true := by subst h0; decide
          have hm1 : modI mb md = 1 := by unfold modI; rw [if_neg (by simp [h5]), hb8]; rfl
          have hl1 : lenI mb md = 1 := by unfold lenI; rw [if_neg (by simp [h5]), hb8]; rfl
          rw [hm1, hl1]
          exact place_V1a_S0 mid mb mi ms md w hm hb hd (by simp [h0]) (by simp [h5]) (by rw [hbf, hb8]) ci c4
        · have hm1 : modI mb md = 0 := by unfold modI; rw [if_pos ⟨h0, h5⟩]
          have hl1 : lenI mb md = 0 := by unfold lenI; rw [if_pos ⟨h0, h5⟩]
          rw [hm1, hl1]
          exact place_V0_S0 mid mb mi ms md w hm hb hd (by simp [h0]) (by simp [h5]) ci c4
      · cases hb8 : byteB md with
        | true =>
          have hm1 : modI mb md = 1 := by unfold modI; rw [if_neg (by simp [h0]), hb8]; rfl
          have hl1 : lenI mb md = 1 := by unfold lenI; rw [if_neg (by simp [h0]), hb8]; rfl
          rw [hm1, hl1]
          exact place_V1b_S0 mid mb mi ms md w hm hb hd (by simp [h0]) (by rw [hbf, hb8]) ci c4
        | false =>
          have hm1 : modI mb md = 2 := by unfold modI; rw [if_neg (by simp [h0]), hb8]; rfl
          have hl1 : lenI mb md = 4 := by unfold lenI; rw [if_neg (by simp [h0]), hb8]; rfl
          rw [hm1, hl1]
          exact place_V2_S0 mid mb mi ms md w hm hb hd (by simp [h0]) (by rw [hbf, hb8]) ci c4
  · have ci : (mi != -1) = true := by simp [hi1]
    have hmi : 0 ≤ mi ∧ mi ≤ 15 := by omega
    rw [if_pos hi1]
    by_cases h0 : md = 0
    · by_cases h5 : loR mb = 5
      · have hb8 : byteB md = true := by subst h0; decide
        have hm1 : modI mb md = 1 := by unfold modI; rw [if_neg (by simp [h5]), hb8]; rfl
        have hl1 : lenI mb md = 1 := by unfold lenI; rw [if_neg (by simp [h5]), hb8]; rfl
        rw [hm1, hl1]
        exact place_V1a_S1 mid mb mi ms md w hm hb hs hd (by simp [h0]) (by simp [h5]) (by rw [hbf, hb8]) ci hmi
      · have hm1 : modI mb md = 0 := by unfold modI; rw [if_pos ⟨h0, h5⟩]
        have hl1 : lenI mb md = 0 := by unfold lenI; rw [if_pos ⟨h0, h5⟩]
        rw [hm1, hl1]
        exact place_V0_S1 mid mb mi ms md w hm hb hs hd (by simp [h0]) (by simp [h5]) ci hmi
    · cases hb8 : byteB md with
      | true =>
        have hm1 : modI mb md = 1 := by unfold modI; rw [if_neg (by simp [h0]), hb8]; rfl
        have hl1 : lenI mb md = 1 := by unfold lenI; rw [if_neg (by simp [h0]), hb8]; rfl
        rw [hm1, hl1]
        exact place_V1b_S1 mid mb mi ms md w hm hb hs hd (by simp [h0]) (by rw [hbf, hb8]) ci hmi
      | false =>
        have hm1 : modI mb md = 2 := by unfold modI; rw [if_neg (by simp [h0]), hb8]; rfl
        have hl1 : lenI mb md = 4 := by unfold lenI; rw [if_neg (by simp [h0]), hb8]; rfl
        rw [hm1, hl1]
        exact place_V2_S1 mid mb mi ms md w hm hb hs hd (by simp [h0]) (by rw [hbf, hb8]) ci hmi
end Go.Proofs.Ytbcaelhchmoigaa
