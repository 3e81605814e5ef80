/- keysmithref06.bytes (the document's answer for layer 6): the operations with a number's bytes, or a place's. Conditions: registers are registers. -/
import Derived.Test.YtakmpnmmcjnecaaRef6P
namespace Go.Proofs.Ytakmpnmmcjnecaa
open Go.RowKit Calm
theorem u8_small {n : Int} (h : 0 ≤ n ∧ n ≤ 255) : IntKind.u8.wrap n = n := by
  simp only [IntKind.wrap, IntKind.bits, IntKind.signed]
  simp
  omega
theorem wrap_small6 {n : Int} (h : -1000 ≤ n ∧ n ≤ 1000) : IntKind.i64.wrap n = n := by
  simp only [IntKind.wrap, IntKind.bits, IntKind.signed]
  simp
  split <;> omega
attribute [local irreducible] placeL loR hiR rexI bothI littleL

set_option maxHeartbeats 4000000 in
set_option maxRecDepth 100000 in
theorem rbytes_2 (d s t mb mi ms md imm : Int) (w : World) (hd : Reg d) (hn : -9223372036854775808 ≤ imm ∧ imm ≤ 9223372036854775807) :
    Calls Try.prog 39 #[.agg #[.int .i64 2, .int .i64 d, .int .i64 s, .int .i64 t, .int .i64 mb, .int .i64 mi, .int .i64 ms, .int .i64 md, .int .i64 imm]] w fun e w' => RetB w.heap.size ([rexI 0 0 d, 184 + loR d] ++ littleL imm 8) e w' ∧ Below w.heap.size w w' := by
  have hdd : 0 ≤ d ∧ d ≤ 15 := hd
  have ht : Int.tmod d 8 = d % 8 := by rw [Int.tmod_eq_emod_of_nonneg hdd.1]
  have hw0 : IntKind.u8.wrap (d % 8) = d % 8 := u8_small (by omega)
  have hw1 : IntKind.u8.wrap (184 + d % 8) = 184 + d % 8 := u8_small (by omega)
  have hw2 : IntKind.i64.wrap (d % 8) = d % 8 := wrap_small6 (by omega)
  go_enter Try.func39, Try.ntmps39
  go_wp2
  obtain ⟨W, hW⟩ : ∃ W, W = w.alloc (.cells #[.int .i64 2, .int .i64 d, .int .i64 s, .int .i64 t, .int .i64 mb, .int .i64 mi, .int .i64 ms, .int .i64 md, .int .i64 imm] 25) := ⟨_, rfl⟩
  have hB : Below w.heap.size w W := by rw [hW]; exact bal (Below.refl _ _) _
  have hz : W.heap.size = w.heap.size + 1 := by rw [hW]; simp
  have f_d : W.cell? ⟨w.heap.size, 1, none⟩ = some (.int .i64 d) := by rw [hW]; go_simp
  have f_s : W.cell? ⟨w.heap.size, 2, none⟩ = some (.int .i64 s) := by rw [hW]; go_simp
  have f_t : W.cell? ⟨w.heap.size, 3, none⟩ = some (.int .i64 t) := by rw [hW]; go_simp
  have f_imm : W.cell? ⟨w.heap.size, 8, none⟩ = some (.int .i64 imm) := by rw [hW]; go_simp
  rw [← hW]
  clear hW
  have k0 : w.heap.size < W.heap.size := by omega
  have k2 : w.heap.size < W.heap.size + 1 := by omega
  go_region_held3 (fun V : World => V.cell? ⟨w.heap.size, 1, none⟩ = some (.int .i64 d) ∧ V.cell? ⟨w.heap.size, 2, none⟩ = some (.int .i64 s) ∧ V.cell? ⟨w.heap.size, 3, none⟩ = some (.int .i64 t) ∧ V.cell? ⟨w.heap.size, 8, none⟩ = some (.int .i64 imm))
    (first | exact ⟨f_d, f_s, f_t, f_imm⟩ | exact k4_below hfin k0 k0 k0 k0 ⟨f_d, f_s, f_t, f_imm⟩ | exact k4_below hfin1 k0 k0 k0 k0 ⟨f_d, f_s, f_t, f_imm⟩ | exact k4_alloc _ ⟨f_d, f_s, f_t, f_imm⟩ | exact k4_alloc _ (k4_below hfin1 k0 k0 k0 k0 ⟨f_d, f_s, f_t, f_imm⟩))
    (first | (go_at_call 61; refine (rrex_any 0 0 d _ m0 m0 hd.m).mono ?_; rintro e w' ⟨rfl, rfl⟩) | (go_at_call 62; refine (rlittle_8 imm _ hn).mono ?_; rintro e w1 ⟨⟨y, rfl, hy⟩, hb1⟩; have hfin1 : Below W.heap.size W w1 := by (first | exact fin1 hb1 | exact fin2 hb1)) | (have hq := finA W _ _ hz #[.int .u8 (rexI 0 0 d), .int .u8 (184 + d % 8)] [rexI 0 0 d, 184 + d % 8] (littleL imm 8) _ 2 rfl rfl (by simp) hb1 hy; refine step_appB rfl _ _ rfl rfl rfl hq.1 hq.2.1 hq.2.2.2 (by rw [littleL_length]; simp) ?_; intro v' w' hv' hb'; have hfin := hq.2.2.1.trans hb') | (have hq := finB W _ #[.int .u8 (rexI 0 0 d), .int .u8 (184 + d % 8)] [rexI 0 0 d, 184 + d % 8] (littleL imm 8) _ 2 rfl rfl (by simp) hb1 hy; refine step_appB rfl _ _ rfl rfl rfl hq.1 hq.2.1 hq.2.2.2 (by rw [littleL_length]; simp) ?_; intro v' w' hv' hb'; have hfin := hq.2.2.1.trans hb'))
  all_goals (go_wp2; go_ret; exact ⟨⟨_, rfl, (hv'.mono (by omega)).cast (by simp only [lo_u8, List.cons_append, List.nil_append])⟩, hB.trans (hfin.mono (by omega))⟩)
set_option maxHeartbeats 4000000 in
set_option maxRecDepth 100000 in
theorem rbytes_3 (d s t mb mi ms md imm : Int) (w : World) (hd : Reg d) (hp : plc mb mi ms md = true) :
    Calls Try.prog 39 #[.agg #[.int .i64 3, .int .i64 d, .int .i64 s, .int .i64 t, .int .i64 mb, .int .i64 mi, .int .i64 ms, .int .i64 md, .int .i64 imm]] w fun e w' => RetB w.heap.size ([rexI d mi mb, 139] ++ placeL d mb mi ms md) e w' ∧ Below w.heap.size w w' := by
  have hb := (plc_facts hp).1
  have hi := plc_index hp
  go_enter Try.func39, Try.ntmps39
  go_wp2
  obtain ⟨W, hW⟩ : ∃ W, W = w.alloc (.cells #[.int .i64 3, .int .i64 d, .int .i64 s, .int .i64 t, .int .i64 mb, .int .i64 mi, .int .i64 ms, .int .i64 md, .int .i64 imm] 25) := ⟨_, rfl⟩
  have hB : Below w.heap.size w W := by rw [hW]; exact bal (Below.refl _ _) _
  have hz : W.heap.size = w.heap.size + 1 := by rw [hW]; simp
  have f_d : W.cell? ⟨w.heap.size, 1, none⟩ = some (.int .i64 d) := by rw [hW]; go_simp
  have f_mb : W.cell? ⟨w.heap.size, 4, none⟩ = some (.int .i64 mb) := by rw [hW]; go_simp
  have f_mi : W.cell? ⟨w.heap.size, 5, none⟩ = some (.int .i64 mi) := by rw [hW]; go_simp
  have f_ms : W.cell? ⟨w.heap.size, 6, none⟩ = some (.int .i64 ms) := by rw [hW]; go_simp
  have f_md : W.cell? ⟨w.heap.size, 7, none⟩ = some (.int .i64 md) := by rw [hW]; go_simp
  have f_imm : W.cell? ⟨w.heap.size, 8, none⟩ = some (.int .i64 imm) := by rw [hW]; go_simp
  rw [← hW]
  clear hW
  have k0 : w.heap.size < W.heap.size := by omega
  have k2 : w.heap.size < W.heap.size + 1 := by omega
  go_region_held3 (fun V : World => V.cell? ⟨w.heap.size, 1, none⟩ = some (.int .i64 d) ∧ V.cell? ⟨w.heap.size, 4, none⟩ = some (.int .i64 mb) ∧ V.cell? ⟨w.heap.size, 5, none⟩ = some (.int .i64 mi) ∧ V.cell? ⟨w.heap.size, 6, none⟩ = some (.int .i64 ms) ∧ V.cell? ⟨w.heap.size, 7, none⟩ = some (.int .i64 md) ∧ V.cell? ⟨w.heap.size, 8, none⟩ = some (.int .i64 imm))
    (first | exact ⟨f_d, f_mb, f_mi, f_ms, f_md, f_imm⟩ | exact k6_below hfin k0 k0 k0 k0 k0 k0 ⟨f_d, f_mb, f_mi, f_ms, f_md, f_imm⟩ | exact k6_below hfin1 k0 k0 k0 k0 k0 k0 ⟨f_d, f_mb, f_mi, f_ms, f_md, f_imm⟩ | exact k6_alloc _ ⟨f_d, f_mb, f_mi, f_ms, f_md, f_imm⟩ | exact k6_alloc _ (k6_below hfin1 k0 k0 k0 k0 k0 k0 ⟨f_d, f_mb, f_mi, f_ms, f_md, f_imm⟩))
    (first | (go_at_call 61; refine (rrex_any d mi mb _ hd.m hi (Reg.m hb)).mono ?_; rintro e w' ⟨rfl, rfl⟩) | (go_at_call 63; refine (rplace6_any d mb mi ms md _ hd hp).mono ?_; rintro e w1 ⟨⟨y, rfl, hy⟩, hb1⟩; have hfin1 : Below W.heap.size W w1 := by (first | exact fin1 hb1 | exact fin2 hb1)) | (have hq := finA W _ _ hz #[.int .u8 (rexI d mi mb), .int .u8 (139)] [rexI d mi mb, 139] (placeL d mb mi ms md) _ 2 rfl rfl (by simp) hb1 hy; refine step_appB rfl _ _ rfl rfl rfl hq.1 hq.2.1 hq.2.2.2 (by have := placeL_length d mb mi ms md; simp; omega) ?_; intro v' w' hv' hb'; have hfin := hq.2.2.1.trans hb') | (have hq := finB W _ #[.int .u8 (rexI d mi mb), .int .u8 (139)] [rexI d mi mb, 139] (placeL d mb mi ms md) _ 2 rfl rfl (by simp) hb1 hy; refine step_appB rfl _ _ rfl rfl rfl hq.1 hq.2.1 hq.2.2.2 (by have := placeL_length d mb mi ms md; simp; omega) ?_; intro v' w' hv' hb'; have hfin := hq.2.2.1.trans hb'))
  all_goals (go_wp2; go_ret; exact ⟨⟨_, rfl, (hv'.mono (by omega))⟩, hB.trans (hfin.mono (by omega))⟩)
set_option maxHeartbeats 4000000 in
set_option maxRecDepth 100000 in
theorem rbytes_4 (d s t mb mi ms md imm : Int) (w : World) (hs : Reg s) (hp : plc mb mi ms md = true) :
    Calls Try.prog 39 #[.agg #[.int .i64 4, .int .i64 d, .int .i64 s, .int .i64 t, .int .i64 mb, .int .i64 mi, .int .i64 ms, .int .i64 md, .int .i64 imm]] w fun e w' => RetB w.heap.size ([rexI s mi mb, 137] ++ placeL s mb mi ms md) e w' ∧ Below w.heap.size w w' := by
  have hb := (plc_facts hp).1
  have hi := plc_index hp
  go_enter Try.func39, Try.ntmps39
  go_wp2
  obtain ⟨W, hW⟩ : ∃ W, W = w.alloc (.cells #[.int .i64 4, .int .i64 d, .int .i64 s, .int .i64 t, .int .i64 mb, .int .i64 mi, .int .i64 ms, .int .i64 md, .int .i64 imm] 25) := ⟨_, rfl⟩
  have hB : Below w.heap.size w W := by rw [hW]; exact bal (Below.refl _ _) _
  have hz : W.heap.size = w.heap.size + 1 := by rw [hW]; simp
  have f_s : W.cell? ⟨w.heap.size, 2, none⟩ = some (.int .i64 s) := by rw [hW]; go_simp
  have f_mb : W.cell? ⟨w.heap.size, 4, none⟩ = some (.int .i64 mb) := by rw [hW]; go_simp
  have f_mi : W.cell? ⟨w.heap.size, 5, none⟩ = some (.int .i64 mi) := by rw [hW]; go_simp
  have f_ms : W.cell? ⟨w.heap.size, 6, none⟩ = some (.int .i64 ms) := by rw [hW]; go_simp
  have f_md : W.cell? ⟨w.heap.size, 7, none⟩ = some (.int .i64 md) := by rw [hW]; go_simp
  have f_imm : W.cell? ⟨w.heap.size, 8, none⟩ = some (.int .i64 imm) := by rw [hW]; go_simp
  rw [← hW]
  clear hW
  have k0 : w.heap.size < W.heap.size := by omega
  have k2 : w.heap.size < W.heap.size + 1 := by omega
  go_region_held3 (fun V : World => V.cell? ⟨w.heap.size, 2, none⟩ = some (.int .i64 s) ∧ V.cell? ⟨w.heap.size, 4, none⟩ = some (.int .i64 mb) ∧ V.cell? ⟨w.heap.size, 5, none⟩ = some (.int .i64 mi) ∧ V.cell? ⟨w.heap.size, 6, none⟩ = some (.int .i64 ms) ∧ V.cell? ⟨w.heap.size, 7, none⟩ = some (.int .i64 md) ∧ V.cell? ⟨w.heap.size, 8, none⟩ = some (.int .i64 imm))
    (first | exact ⟨f_s, f_mb, f_mi, f_ms, f_md, f_imm⟩ | exact k6_below hfin k0 k0 k0 k0 k0 k0 ⟨f_s, f_mb, f_mi, f_ms, f_md, f_imm⟩ | exact k6_below hfin1 k0 k0 k0 k0 k0 k0 ⟨f_s, f_mb, f_mi, f_ms, f_md, f_imm⟩ | exact k6_alloc _ ⟨f_s, f_mb, f_mi, f_ms, f_md, f_imm⟩ | exact k6_alloc _ (k6_below hfin1 k0 k0 k0 k0 k0 k0 ⟨f_s, f_mb, f_mi, f_ms, f_md, f_imm⟩))
    (first | (go_at_call 61; refine (rrex_any s mi mb _ hs.m hi (Reg.m hb)).mono ?_; rintro e w' ⟨rfl, rfl⟩) | (go_at_call 63; refine (rplace6_any s mb mi ms md _ hs hp).mono ?_; rintro e w1 ⟨⟨y, rfl, hy⟩, hb1⟩; have hfin1 : Below W.heap.size W w1 := by (first | exact fin1 hb1 | exact fin2 hb1)) | (have hq := finA W _ _ hz #[.int .u8 (rexI s mi mb), .int .u8 (137)] [rexI s mi mb, 137] (placeL s mb mi ms md) _ 2 rfl rfl (by simp) hb1 hy; refine step_appB rfl _ _ rfl rfl rfl hq.1 hq.2.1 hq.2.2.2 (by have := placeL_length s mb mi ms md; simp; omega) ?_; intro v' w' hv' hb'; have hfin := hq.2.2.1.trans hb') | (have hq := finB W _ #[.int .u8 (rexI s mi mb), .int .u8 (137)] [rexI s mi mb, 137] (placeL s mb mi ms md) _ 2 rfl rfl (by simp) hb1 hy; refine step_appB rfl _ _ rfl rfl rfl hq.1 hq.2.1 hq.2.2.2 (by have := placeL_length s mb mi ms md; simp; omega) ?_; intro v' w' hv' hb'; have hfin := hq.2.2.1.trans hb'))
  all_goals (go_wp2; go_ret; exact ⟨⟨_, rfl, (hv'.mono (by omega))⟩, hB.trans (hfin.mono (by omega))⟩)
set_option maxHeartbeats 4000000 in
set_option maxRecDepth 100000 in
theorem rbytes_5 (d s t mb mi ms md imm : Int) (w : World) (hd : Reg d) (hp : plc mb mi ms md = true) :
    Calls Try.prog 39 #[.agg #[.int .i64 5, .int .i64 d, .int .i64 s, .int .i64 t, .int .i64 mb, .int .i64 mi, .int .i64 ms, .int .i64 md, .int .i64 imm]] w fun e w' => RetB w.heap.size ([rexI d mi mb, 141] ++ placeL d mb mi ms md) e w' ∧ Below w.heap.size w w' := by
  have hb := (plc_facts hp).1
  have hi := plc_index hp
  go_enter Try.func39, Try.ntmps39
  go_wp2
  obtain ⟨W, hW⟩ : ∃ W, W = w.alloc (.cells #[.int .i64 5, .int .i64 d, .int .i64 s, .int .i64 t, .int .i64 mb, .int .i64 mi, .int .i64 ms, .int .i64 md, .int .i64 imm] 25) := ⟨_, rfl⟩
  have hB : Below w.heap.size w W := by rw [hW]; exact bal (Below.refl _ _) _
  have hz : W.heap.size = w.heap.size + 1 := by rw [hW]; simp
  have f_d : W.cell? ⟨w.heap.size, 1, none⟩ = some (.int .i64 d) := by rw [hW]; go_simp
  have f_mb : W.cell? ⟨w.heap.size, 4, none⟩ = some (.int .i64 mb) := by rw [hW]; go_simp
  have f_mi : W.cell? ⟨w.heap.size, 5, none⟩ = some (.int .i64 mi) := by rw [hW]; go_simp
  have f_ms : W.cell? ⟨w.heap.size, 6, none⟩ = some (.int .i64 ms) := by rw [hW]; go_simp
  have f_md : W.cell? ⟨w.heap.size, 7, none⟩ = some (.int .i64 md) := by rw [hW]; go_simp
  have f_imm : W.cell? ⟨w.heap.size, 8, none⟩ = some (.int .i64 imm) := by rw [hW]; go_simp
  rw [← hW]
  clear hW
  have k0 : w.heap.size < W.heap.size := by omega
  have k2 : w.heap.size < W.heap.size + 1 := by omega
  go_region_held3 (fun V : World => V.cell? ⟨w.heap.size, 1, none⟩ = some (.int .i64 d) ∧ V.cell? ⟨w.heap.size, 4, none⟩ = some (.int .i64 mb) ∧ V.cell? ⟨w.heap.size, 5, none⟩ = some (.int .i64 mi) ∧ V.cell? ⟨w.heap.size, 6, none⟩ = some (.int .i64 ms) ∧ V.cell? ⟨w.heap.size, 7, none⟩ = some (.int .i64 md) ∧ V.cell? ⟨w.heap.size, 8, none⟩ = some (.int .i64 imm))
    (first | exact ⟨f_d, f_mb, f_mi, f_ms, f_md, f_imm⟩ | exact k6_below hfin k0 k0 k0 k0 k0 k0 ⟨f_d, f_mb, f_mi, f_ms, f_md, f_imm⟩ | exact k6_below hfin1 k0 k0 k0 k0 k0 k0 ⟨f_d, f_mb, f_mi, f_ms, f_md, f_imm⟩ | exact k6_alloc _ ⟨f_d, f_mb, f_mi, f_ms, f_md, f_imm⟩ | exact k6_alloc _ (k6_below hfin1 k0 k0 k0 k0 k0 k0 ⟨f_d, f_mb, f_mi, f_ms, f_md, f_imm⟩))
    (first | (go_at_call 61; refine (rrex_any d mi mb _ hd.m hi (Reg.m hb)).mono ?_; rintro e w' ⟨rfl, rfl⟩) | (go_at_call 63; refine (rplace6_any d mb mi ms md _ hd hp).mono ?_; rintro e w1 ⟨⟨y, rfl, hy⟩, hb1⟩; have hfin1 : Below W.heap.size W w1 := by (first | exact fin1 hb1 | exact fin2 hb1)) | (have hq := finA W _ _ hz #[.int .u8 (rexI d mi mb), .int .u8 (141)] [rexI d mi mb, 141] (placeL d mb mi ms md) _ 2 rfl rfl (by simp) hb1 hy; refine step_appB rfl _ _ rfl rfl rfl hq.1 hq.2.1 hq.2.2.2 (by have := placeL_length d mb mi ms md; simp; omega) ?_; intro v' w' hv' hb'; have hfin := hq.2.2.1.trans hb') | (have hq := finB W _ #[.int .u8 (rexI d mi mb), .int .u8 (141)] [rexI d mi mb, 141] (placeL d mb mi ms md) _ 2 rfl rfl (by simp) hb1 hy; refine step_appB rfl _ _ rfl rfl rfl hq.1 hq.2.1 hq.2.2.2 (by have := placeL_length d mb mi ms md; simp; omega) ?_; intro v' w' hv' hb'; have hfin := hq.2.2.1.trans hb'))
  all_goals (go_wp2; go_ret; exact ⟨⟨_, rfl, (hv'.mono (by omega))⟩, hB.trans (hfin.mono (by omega))⟩)
set_option maxHeartbeats 4000000 in
set_option maxRecDepth 100000 in
theorem rbytes_15 (d s t mb mi ms md imm : Int) (w : World) (hd : Reg d) (hn : -9223372036854775808 ≤ imm ∧ imm ≤ 9223372036854775807) :
    Calls Try.prog 39 #[.agg #[.int .i64 15, .int .i64 d, .int .i64 s, .int .i64 t, .int .i64 mb, .int .i64 mi, .int .i64 ms, .int .i64 md, .int .i64 imm]] w fun e w' => RetB w.heap.size ([rexI 0 0 d, 129, bothI 0 d] ++ littleL imm 4) e w' ∧ Below w.heap.size w w' := by
  go_enter Try.func39, Try.ntmps39
  go_wp2
  obtain ⟨W, hW⟩ : ∃ W, W = w.alloc (.cells #[.int .i64 15, .int .i64 d, .int .i64 s, .int .i64 t, .int .i64 mb, .int .i64 mi, .int .i64 ms, .int .i64 md, .int .i64 imm] 25) := ⟨_, rfl⟩
  have hB : Below w.heap.size w W := by rw [hW]; exact bal (Below.refl _ _) _
  have hz : W.heap.size = w.heap.size + 1 := by rw [hW]; simp
  have f_d : W.cell? ⟨w.heap.size, 1, none⟩ = some (.int .i64 d) := by rw [hW]; go_simp
  have f_s : W.cell? ⟨w.heap.size, 2, none⟩ = some (.int .i64 s) := by rw [hW]; go_simp
  have f_t : W.cell? ⟨w.heap.size, 3, none⟩ = some (.int .i64 t) := by rw [hW]; go_simp
  have f_imm : W.cell? ⟨w.heap.size, 8, none⟩ = some (.int .i64 imm) := by rw [hW]; go_simp
  rw [← hW]
  clear hW
  have k0 : w.heap.size < W.heap.size := by omega
  have k2 : w.heap.size < W.heap.size + 1 := by omega
  go_region_held3 (fun V : World => V.cell? ⟨w.heap.size, 1, none⟩ = some (.int .i64 d) ∧ V.cell? ⟨w.heap.size, 2, none⟩ = some (.int .i64 s) ∧ V.cell? ⟨w.heap.size, 3, none⟩ = some (.int .i64 t) ∧ V.cell? ⟨w.heap.size, 8, none⟩ = some (.int .i64 imm))
    (first | exact ⟨f_d, f_s, f_t, f_imm⟩ | exact k4_below hfin k0 k0 k0 k0 ⟨f_d, f_s, f_t, f_imm⟩ | exact k4_below hfin1 k0 k0 k0 k0 ⟨f_d, f_s, f_t, f_imm⟩ | exact k4_alloc _ ⟨f_d, f_s, f_t, f_imm⟩ | exact k4_alloc _ (k4_below hfin1 k0 k0 k0 k0 ⟨f_d, f_s, f_t, f_imm⟩))
    (first | (go_at_call 61; refine (rrex_any 0 0 d _ m0 m0 hd.m).mono ?_; rintro e w' ⟨rfl, rfl⟩) | (go_at_call 64; refine (rboth_any 0 d _ (by omega) hd).mono ?_; rintro e w' ⟨rfl, rfl⟩) | (go_at_call 62; refine (rlittle_4 imm _ hn).mono ?_; rintro e w1 ⟨⟨y, rfl, hy⟩, hb1⟩; have hfin1 : Below W.heap.size W w1 := by (first | exact fin1 hb1 | exact fin2 hb1)) | (have hq := finA W _ _ hz #[.int .u8 (rexI 0 0 d), .int .u8 (129), .int .u8 (bothI 0 d)] [rexI 0 0 d, 129, bothI 0 d] (littleL imm 4) _ 3 rfl rfl (by simp) hb1 hy; refine step_appB rfl _ _ rfl rfl rfl hq.1 hq.2.1 hq.2.2.2 (by rw [littleL_length]; simp) ?_; intro v' w' hv' hb'; have hfin := hq.2.2.1.trans hb') | (have hq := finB W _ #[.int .u8 (rexI 0 0 d), .int .u8 (129), .int .u8 (bothI 0 d)] [rexI 0 0 d, 129, bothI 0 d] (littleL imm 4) _ 3 rfl rfl (by simp) hb1 hy; refine step_appB rfl _ _ rfl rfl rfl hq.1 hq.2.1 hq.2.2.2 (by rw [littleL_length]; simp) ?_; intro v' w' hv' hb'; have hfin := hq.2.2.1.trans hb'))
  all_goals (go_wp2; go_ret; exact ⟨⟨_, rfl, (hv'.mono (by omega))⟩, hB.trans (hfin.mono (by omega))⟩)
set_option maxHeartbeats 4000000 in
set_option maxRecDepth 100000 in
theorem rbytes_16 (d s t mb mi ms md imm : Int) (w : World) (hd : Reg d) (hn : -9223372036854775808 ≤ imm ∧ imm ≤ 9223372036854775807) :
    Calls Try.prog 39 #[.agg #[.int .i64 16, .int .i64 d, .int .i64 s, .int .i64 t, .int .i64 mb, .int .i64 mi, .int .i64 ms, .int .i64 md, .int .i64 imm]] w fun e w' => RetB w.heap.size ([rexI 0 0 d, 129, bothI 4 d] ++ littleL imm 4) e w' ∧ Below w.heap.size w w' := by
  go_enter Try.func39, Try.ntmps39
  go_wp2
  obtain ⟨W, hW⟩ : ∃ W, W = w.alloc (.cells #[.int .i64 16, .int .i64 d, .int .i64 s, .int .i64 t, .int .i64 mb, .int .i64 mi, .int .i64 ms, .int .i64 md, .int .i64 imm] 25) := ⟨_, rfl⟩
  have hB : Below w.heap.size w W := by rw [hW]; exact bal (Below.refl _ _) _
  have hz : W.heap.size = w.heap.size + 1 := by rw [hW]; simp
  have f_d : W.cell? ⟨w.heap.size, 1, none⟩ = some (.int .i64 d) := by rw [hW]; go_simp
  have f_s : W.cell? ⟨w.heap.size, 2, none⟩ = some (.int .i64 s) := by rw [hW]; go_simp
  have f_t : W.cell? ⟨w.heap.size, 3, none⟩ = some (.int .i64 t) := by rw [hW]; go_simp
  have f_imm : W.cell? ⟨w.heap.size, 8, none⟩ = some (.int .i64 imm) := by rw [hW]; go_simp
  rw [← hW]
  clear hW
  have k0 : w.heap.size < W.heap.size := by omega
  have k2 : w.heap.size < W.heap.size + 1 := by omega
  go_region_held3 (fun V : World => V.cell? ⟨w.heap.size, 1, none⟩ = some (.int .i64 d) ∧ V.cell? ⟨w.heap.size, 2, none⟩ = some (.int .i64 s) ∧ V.cell? ⟨w.heap.size, 3, none⟩ = some (.int .i64 t) ∧ V.cell? ⟨w.heap.size, 8, none⟩ = some (.int .i64 imm))
    (first | exact ⟨f_d, f_s, f_t, f_imm⟩ | exact k4_below hfin k0 k0 k0 k0 ⟨f_d, f_s, f_t, f_imm⟩ | exact k4_below hfin1 k0 k0 k0 k0 ⟨f_d, f_s, f_t, f_imm⟩ | exact k4_alloc _ ⟨f_d, f_s, f_t, f_imm⟩ | exact k4_alloc _ (k4_below hfin1 k0 k0 k0 k0 ⟨f_d, f_s, f_t, f_imm⟩))
    (first | (go_at_call 61; refine (rrex_any 0 0 d _ m0 m0 hd.m).mono ?_; rintro e w' ⟨rfl, rfl⟩) | (go_at_call 64; refine (rboth_any 4 d _ (by omega) hd).mono ?_; rintro e w' ⟨rfl, rfl⟩) | (go_at_call 62; refine (rlittle_4 imm _ hn).mono ?_; rintro e w1 ⟨⟨y, rfl, hy⟩, hb1⟩; have hfin1 : Below W.heap.size W w1 := by (first | exact fin1 hb1 | exact fin2 hb1)) | (have hq := finA W _ _ hz #[.int .u8 (rexI 0 0 d), .int .u8 (129), .int .u8 (bothI 4 d)] [rexI 0 0 d, 129, bothI 4 d] (littleL imm 4) _ 3 rfl rfl (by simp) hb1 hy; refine step_appB rfl _ _ rfl rfl rfl hq.1 hq.2.1 hq.2.2.2 (by rw [littleL_length]; simp) ?_; intro v' w' hv' hb'; have hfin := hq.2.2.1.trans hb') | (have hq := finB W _ #[.int .u8 (rexI 0 0 d), .int .u8 (129), .int .u8 (bothI 4 d)] [rexI 0 0 d, 129, bothI 4 d] (littleL imm 4) _ 3 rfl rfl (by simp) hb1 hy; refine step_appB rfl _ _ rfl rfl rfl hq.1 hq.2.1 hq.2.2.2 (by rw [littleL_length]; simp) ?_; intro v' w' hv' hb'; have hfin := hq.2.2.1.trans hb'))
  all_goals (go_wp2; go_ret; exact ⟨⟨_, rfl, (hv'.mono (by omega))⟩, hB.trans (hfin.mono (by omega))⟩)
set_option maxHeartbeats 4000000 in
set_option maxRecDepth 100000 in
theorem rbytes_17 (d s t mb mi ms md imm : Int) (w : World) (hd : Reg d) (hn : -9223372036854775808 ≤ imm ∧ imm ≤ 9223372036854775807) :
    Calls Try.prog 39 #[.agg #[.int .i64 17, .int .i64 d, .int .i64 s, .int .i64 t, .int .i64 mb, .int .i64 mi, .int .i64 ms, .int .i64 md, .int .i64 imm]] w fun e w' => RetB w.heap.size ([rexI 0 0 d, 129, bothI 5 d] ++ littleL imm 4) e w' ∧ Below w.heap.size w w' := by
  go_enter Try.func39, Try.ntmps39
  go_wp2
  obtain ⟨W, hW⟩ : ∃ W, W = w.alloc (.cells #[.int .i64 17, .int .i64 d, .int .i64 s, .int .i64 t, .int .i64 mb, .int .i64 mi, .int .i64 ms, .int .i64 md, .int .i64 imm] 25) := ⟨_, rfl⟩
  have hB : Below w.heap.size w W := by rw [hW]; exact bal (Below.refl _ _) _
  have hz : W.heap.size = w.heap.size + 1 := by rw [hW]; simp
  have f_d : W.cell? ⟨w.heap.size, 1, none⟩ = some (.int .i64 d) := by rw [hW]; go_simp
  have f_s : W.cell? ⟨w.heap.size, 2, none⟩ = some (.int .i64 s) := by rw [hW]; go_simp
  have f_t : W.cell? ⟨w.heap.size, 3, none⟩ = some (.int .i64 t) := by rw [hW]; go_simp
  have f_imm : W.cell? ⟨w.heap.size, 8, none⟩ = some (.int .i64 imm) := by rw [hW]; go_simp
  rw [← hW]
  clear hW
  have k0 : w.heap.size < W.heap.size := by omega
  have k2 : w.heap.size < W.heap.size + 1 := by omega
  go_region_held3 (fun V : World => V.cell? ⟨w.heap.size, 1, none⟩ = some (.int .i64 d) ∧ V.cell? ⟨w.heap.size, 2, none⟩ = some (.int .i64 s) ∧ V.cell? ⟨w.heap.size, 3, none⟩ = some (.int .i64 t) ∧ V.cell? ⟨w.heap.size, 8, none⟩ = some (.int .i64 imm))
    (first | exact ⟨f_d, f_s, f_t, f_imm⟩ | exact k4_below hfin k0 k0 k0 k0 ⟨f_d, f_s, f_t, f_imm⟩ | exact k4_below hfin1 k0 k0 k0 k0 ⟨f_d, f_s, f_t, f_imm⟩ | exact k4_alloc _ ⟨f_d, f_s, f_t, f_imm⟩ | exact k4_alloc _ (k4_below hfin1 k0 k0 k0 k0 ⟨f_d, f_s, f_t, f_imm⟩))
    (first | (go_at_call 61; refine (rrex_any 0 0 d _ m0 m0 hd.m).mono ?_; rintro e w' ⟨rfl, rfl⟩) | (go_at_call 64; refine (rboth_any 5 d _ (by omega) hd).mono ?_; rintro e w' ⟨rfl, rfl⟩) | (go_at_call 62; refine (rlittle_4 imm _ hn).mono ?_; rintro e w1 ⟨⟨y, rfl, hy⟩, hb1⟩; have hfin1 : Below W.heap.size W w1 := by (first | exact fin1 hb1 | exact fin2 hb1)) | (have hq := finA W _ _ hz #[.int .u8 (rexI 0 0 d), .int .u8 (129), .int .u8 (bothI 5 d)] [rexI 0 0 d, 129, bothI 5 d] (littleL imm 4) _ 3 rfl rfl (by simp) hb1 hy; refine step_appB rfl _ _ rfl rfl rfl hq.1 hq.2.1 hq.2.2.2 (by rw [littleL_length]; simp) ?_; intro v' w' hv' hb'; have hfin := hq.2.2.1.trans hb') | (have hq := finB W _ #[.int .u8 (rexI 0 0 d), .int .u8 (129), .int .u8 (bothI 5 d)] [rexI 0 0 d, 129, bothI 5 d] (littleL imm 4) _ 3 rfl rfl (by simp) hb1 hy; refine step_appB rfl _ _ rfl rfl rfl hq.1 hq.2.1 hq.2.2.2 (by rw [littleL_length]; simp) ?_; intro v' w' hv' hb'; have hfin := hq.2.2.1.trans hb'))
  all_goals (go_wp2; go_ret; exact ⟨⟨_, rfl, (hv'.mono (by omega))⟩, hB.trans (hfin.mono (by omega))⟩)
set_option maxHeartbeats 4000000 in
set_option maxRecDepth 100000 in
theorem rbytes_18 (d s t mb mi ms md imm : Int) (w : World) (hd : Reg d) (hn : -9223372036854775808 ≤ imm ∧ imm ≤ 9223372036854775807) :
    Calls Try.prog 39 #[.agg #[.int .i64 18, .int .i64 d, .int .i64 s, .int .i64 t, .int .i64 mb, .int .i64 mi, .int .i64 ms, .int .i64 md, .int .i64 imm]] w fun e w' => RetB w.heap.size ([rexI 0 0 d, 129, bothI 7 d] ++ littleL imm 4) e w' ∧ Below w.heap.size w w' := by
  go_enter Try.func39, Try.ntmps39
  go_wp2
  obtain ⟨W, hW⟩ : ∃ W, W = w.alloc (.cells #[.int .i64 18, .int .i64 d, .int .i64 s, .int .i64 t, .int .i64 mb, .int .i64 mi, .int .i64 ms, .int .i64 md, .int .i64 imm] 25) := ⟨_, rfl⟩
  have hB : Below w.heap.size w W := by rw [hW]; exact bal (Below.refl _ _) _
  have hz : W.heap.size = w.heap.size + 1 := by rw [hW]; simp
  have f_d : W.cell? ⟨w.heap.size, 1, none⟩ = some (.int .i64 d) := by rw [hW]; go_simp
  have f_s : W.cell? ⟨w.heap.size, 2, none⟩ = some (.int .i64 s) := by rw [hW]; go_simp
  have f_t : W.cell? ⟨w.heap.size, 3, none⟩ = some (.int .i64 t) := by rw [hW]; go_simp
  have f_imm : W.cell? ⟨w.heap.size, 8, none⟩ = some (.int .i64 imm) := by rw [hW]; go_simp
  rw [← hW]
  clear hW
  have k0 : w.heap.size < W.heap.size := by omega
  have k2 : w.heap.size < W.heap.size + 1 := by omega
  go_region_held3 (fun V : World => V.cell? ⟨w.heap.size, 1, none⟩ = some (.int .i64 d) ∧ V.cell? ⟨w.heap.size, 2, none⟩ = some (.int .i64 s) ∧ V.cell? ⟨w.heap.size, 3, none⟩ = some (.int .i64 t) ∧ V.cell? ⟨w.heap.size, 8, none⟩ = some (.int .i64 imm))
    (first | exact ⟨f_d, f_s, f_t, f_imm⟩ | exact k4_below hfin k0 k0 k0 k0 ⟨f_d, f_s, f_t, f_imm⟩ | exact k4_below hfin1 k0 k0 k0 k0 ⟨f_d, f_s, f_t, f_imm⟩ | exact k4_alloc _ ⟨f_d, f_s, f_t, f_imm⟩ | exact k4_alloc _ (k4_below hfin1 k0 k0 k0 k0 ⟨f_d, f_s, f_t, f_imm⟩))
    (first | (go_at_call 61; refine (rrex_any 0 0 d _ m0 m0 hd.m).mono ?_; rintro e w' ⟨rfl, rfl⟩) | (go_at_call 64; refine (rboth_any 7 d _ (by omega) hd).mono ?_; rintro e w' ⟨rfl, rfl⟩) | (go_at_call 62; refine (rlittle_4 imm _ hn).mono ?_; rintro e w1 ⟨⟨y, rfl, hy⟩, hb1⟩; have hfin1 : Below W.heap.size W w1 := by (first | exact fin1 hb1 | exact fin2 hb1)) | (have hq := finA W _ _ hz #[.int .u8 (rexI 0 0 d), .int .u8 (129), .int .u8 (bothI 7 d)] [rexI 0 0 d, 129, bothI 7 d] (littleL imm 4) _ 3 rfl rfl (by simp) hb1 hy; refine step_appB rfl _ _ rfl rfl rfl hq.1 hq.2.1 hq.2.2.2 (by rw [littleL_length]; simp) ?_; intro v' w' hv' hb'; have hfin := hq.2.2.1.trans hb') | (have hq := finB W _ #[.int .u8 (rexI 0 0 d), .int .u8 (129), .int .u8 (bothI 7 d)] [rexI 0 0 d, 129, bothI 7 d] (littleL imm 4) _ 3 rfl rfl (by simp) hb1 hy; refine step_appB rfl _ _ rfl rfl rfl hq.1 hq.2.1 hq.2.2.2 (by rw [littleL_length]; simp) ?_; intro v' w' hv' hb'; have hfin := hq.2.2.1.trans hb'))
  all_goals (go_wp2; go_ret; exact ⟨⟨_, rfl, (hv'.mono (by omega))⟩, hB.trans (hfin.mono (by omega))⟩)
end Go.Proofs.Ytakmpnmmcjnecaa
