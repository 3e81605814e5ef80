/- keysmithref06.place (the document's answer for layer 6), the ways C. Conditions: registers are registers, the number has 32 bits. -/
import Derived.Test.YtakmpnmmcjnecaaRef6P0
namespace Go.Proofs.Ytakmpnmmcjnecaa
open Go.RowKit Calm
attribute [local irreducible] hiR littleL scaleI

set_option maxHeartbeats 4000000 in
set_option maxRecDepth 100000 in
theorem rplace_V2b_S1 (mid mb mi ms md : Int) (w : World) (hm : 0 ≤ mid ∧ mid ≤ 15) (hb : 0 ≤ mb ∧ mb ≤ 15) (hmi : 0 ≤ mi ∧ mi ≤ 15) (hd : -2147483648 ≤ md ∧ md ≤ 2147483647) (hsc : scaleI ms = 0) (h0 : (md == 0) = false) (h1 : decide (-128 ≤ md) = false) (h2 : (mi != -1) = true) (h3 : (ms == 2) = false) (h4 : (ms == 4) = false) (h5 : (ms == 8) = false) :
    Calls Try.prog 63 #[.int .i64 mid, .agg #[.int .i64 mb, .int .i64 mi, .int .i64 ms, .int .i64 md]] w fun e w' => RetB w.heap.size (rmI 2 mid 4 :: sibI ms (loR mi) mb :: littleL md 4) e w' ∧ Below w.heap.size w w' := by
  have hsc' := hidd hsc
  clear hsc
  go_enter Try.func63, Try.ntmps63
  go_wp2_with fail
  go_region
  go_wp2_with (first | (at_builtin; refine wpList_appB (xs := [(128 + 8 * (mid % 8) + 4), (8 * (mi % 8) + mb % 8)]) (bs := littleL md 4) (B := w.heap.size + 1) rfl _ _ rfl rfl rfl h2 hy1 hz3 (by rw [littleL_length]; simp) ?_; intro v' w' hB' hb') | (at_builtin; have hR := rp_two w mb mi ms md (128 + 8 * (mid % 8) + 4) (8 * (mi % 8) + mb % 8); refine wpList_appB (xs := [(128 + 8 * (mid % 8) + 4)]) (bs := [(8 * (mi % 8) + mb % 8)]) (B := w.heap.size + 1) rfl _ _ rfl rfl rfl hR.1 hR.2.1 hR.2.2.1 (by simp) ?_; intro v2 w2 hv2 hb2; obtain ⟨hbw, hc, hz2⟩ := hR.2.2.2 w2 hb2; clear hR hb2) | (go_at_call 62; refine (rlittle_4 md _ (by omega)).mono ?_; rintro e w3 ⟨⟨y, rfl, hy⟩, hb3⟩; have h2 := hv2.later hb3; have hy1 := hy.mono hz2; have hbw3 := hbw.trans (hb3.mono (by omega)); have hz3 := Nat.le_trans hz2 hb3.size; clear hb3 hy hbw))
  go_ret
  exact ⟨⟨_, rfl, (hB'.mono (by omega)).cast (by simp only [List.cons_append, List.nil_append, List.cons.injEq, and_true, rmI, sibI, loR]; rw [hsc'.out]; omega)⟩, hbw3.trans (hb'.mono (by omega))⟩
set_option maxHeartbeats 4000000 in
set_option maxRecDepth 100000 in
theorem rplace_V2b_S2 (mid mb mi ms md : Int) (w : World) (hm : 0 ≤ mid ∧ mid ≤ 15) (hb : 0 ≤ mb ∧ mb ≤ 15) (hmi : 0 ≤ mi ∧ mi ≤ 15) (hd : -2147483648 ≤ md ∧ md ≤ 2147483647) (hsc : scaleI ms = 1) (h0 : (md == 0) = false) (h1 : decide (-128 ≤ md) = false) (h2 : (mi != -1) = true) (h3 : (ms == 2) = true) :
    Calls Try.prog 63 #[.int .i64 mid, .agg #[.int .i64 mb, .int .i64 mi, .int .i64 ms, .int .i64 md]] w fun e w' => RetB w.heap.size (rmI 2 mid 4 :: sibI ms (loR mi) mb :: littleL md 4) e w' ∧ Below w.heap.size w w' := by
  have hsc' := hidd hsc
  clear hsc
  go_enter Try.func63, Try.ntmps63
  go_wp2_with fail
  go_region
  go_wp2_with (first | (at_builtin; refine wpList_appB (xs := [(128 + 8 * (mid % 8) + 4), (64 + 8 * (mi % 8) + mb % 8)]) (bs := littleL md 4) (B := w.heap.size + 1) rfl _ _ rfl rfl rfl h2 hy1 hz3 (by rw [littleL_length]; simp) ?_; intro v' w' hB' hb') | (at_builtin; have hR := rp_two w mb mi ms md (128 + 8 * (mid % 8) + 4) (64 + 8 * (mi % 8) + mb % 8); refine wpList_appB (xs := [(128 + 8 * (mid % 8) + 4)]) (bs := [(64 + 8 * (mi % 8) + mb % 8)]) (B := w.heap.size + 1) rfl _ _ rfl rfl rfl hR.1 hR.2.1 hR.2.2.1 (by simp) ?_; intro v2 w2 hv2 hb2; obtain ⟨hbw, hc, hz2⟩ := hR.2.2.2 w2 hb2; clear hR hb2) | (go_at_call 62; refine (rlittle_4 md _ (by omega)).mono ?_; rintro e w3 ⟨⟨y, rfl, hy⟩, hb3⟩; have h2 := hv2.later hb3; have hy1 := hy.mono hz2; have hbw3 := hbw.trans (hb3.mono (by omega)); have hz3 := Nat.le_trans hz2 hb3.size; clear hb3 hy hbw))
  go_ret
  exact ⟨⟨_, rfl, (hB'.mono (by omega)).cast (by simp only [List.cons_append, List.nil_append, List.cons.injEq, and_true, rmI, sibI, loR]; rw [hsc'.out]; omega)⟩, hbw3.trans (hb'.mono (by omega))⟩
set_option maxHeartbeats 4000000 in
set_option maxRecDepth 100000 in
theorem rplace_V2b_S4 (mid mb mi ms md : Int) (w : World) (hm : 0 ≤ mid ∧ mid ≤ 15) (hb : 0 ≤ mb ∧ mb ≤ 15) (hmi : 0 ≤ mi ∧ mi ≤ 15) (hd : -2147483648 ≤ md ∧ md ≤ 2147483647) (hsc : scaleI ms = 2) (h0 : (md == 0) = false) (h1 : decide (-128 ≤ md) = false) (h2 : (mi != -1) = true) (h3 : (ms == 2) = false) (h4 : (ms == 4) = true) :
    Calls Try.prog 63 #[.int .i64 mid, .agg #[.int .i64 mb, .int .i64 mi, .int .i64 ms, .int .i64 md]] w fun e w' => RetB w.heap.size (rmI 2 mid 4 :: sibI ms (loR mi) mb :: littleL md 4) e w' ∧ Below w.heap.size w w' := by
  have hsc' := hidd hsc
  clear hsc
  go_enter Try.func63, Try.ntmps63
  go_wp2_with fail
  go_region
  go_wp2_with (first | (at_builtin; refine wpList_appB (xs := [(128 + 8 * (mid % 8) + 4), (128 + 8 * (mi % 8) + mb % 8)]) (bs := littleL md 4) (B := w.heap.size + 1) rfl _ _ rfl rfl rfl h2 hy1 hz3 (by rw [littleL_length]; simp) ?_; intro v' w' hB' hb') | (at_builtin; have hR := rp_two w mb mi ms md (128 + 8 * (mid % 8) + 4) (128 + 8 * (mi % 8) + mb % 8); refine wpList_appB (xs := [(128 + 8 * (mid % 8) + 4)]) (bs := [(128 + 8 * (mi % 8) + mb % 8)]) (B := w.heap.size + 1) rfl _ _ rfl rfl rfl hR.1 hR.2.1 hR.2.2.1 (by simp) ?_; intro v2 w2 hv2 hb2; obtain ⟨hbw, hc, hz2⟩ := hR.2.2.2 w2 hb2; clear hR hb2) | (go_at_call 62; refine (rlittle_4 md _ (by omega)).mono ?_; rintro e w3 ⟨⟨y, rfl, hy⟩, hb3⟩; have h2 := hv2.later hb3; have hy1 := hy.mono hz2; have hbw3 := hbw.trans (hb3.mono (by omega)); have hz3 := Nat.le_trans hz2 hb3.size; clear hb3 hy hbw))
  go_ret
  exact ⟨⟨_, rfl, (hB'.mono (by omega)).cast (by simp only [List.cons_append, List.nil_append, List.cons.injEq, and_true, rmI, sibI, loR]; rw [hsc'.out]; omega)⟩, hbw3.trans (hb'.mono (by omega))⟩
set_option maxHeartbeats 4000000 in
set_option maxRecDepth 100000 in
theorem rplace_V2b_S8 (mid mb mi ms md : Int) (w : World) (hm : 0 ≤ mid ∧ mid ≤ 15) (hb : 0 ≤ mb ∧ mb ≤ 15) (hmi : 0 ≤ mi ∧ mi ≤ 15) (hd : -2147483648 ≤ md ∧ md ≤ 2147483647) (hsc : scaleI ms = 3) (h0 : (md == 0) = false) (h1 : decide (-128 ≤ md) = false) (h2 : (mi != -1) = true) (h3 : (ms == 2) = false) (h4 : (ms == 4) = false) (h5 : (ms == 8) = true) :
    Calls Try.prog 63 #[.int .i64 mid, .agg #[.int .i64 mb, .int .i64 mi, .int .i64 ms, .int .i64 md]] w fun e w' => RetB w.heap.size (rmI 2 mid 4 :: sibI ms (loR mi) mb :: littleL md 4) e w' ∧ Below w.heap.size w w' := by
  have hsc' := hidd hsc
  clear hsc
  go_enter Try.func63, Try.ntmps63
  go_wp2_with fail
  go_region
  go_wp2_with (first | (at_builtin; refine wpList_appB (xs := [(128 + 8 * (mid % 8) + 4), (192 + 8 * (mi % 8) + mb % 8)]) (bs := littleL md 4) (B := w.heap.size + 1) rfl _ _ rfl rfl rfl h2 hy1 hz3 (by rw [littleL_length]; simp) ?_; intro v' w' hB' hb') | (at_builtin; have hR := rp_two w mb mi ms md (128 + 8 * (mid % 8) + 4) (192 + 8 * (mi % 8) + mb % 8); refine wpList_appB (xs := [(128 + 8 * (mid % 8) + 4)]) (bs := [(192 + 8 * (mi % 8) + mb % 8)]) (B := w.heap.size + 1) rfl _ _ rfl rfl rfl hR.1 hR.2.1 hR.2.2.1 (by simp) ?_; intro v2 w2 hv2 hb2; obtain ⟨hbw, hc, hz2⟩ := hR.2.2.2 w2 hb2; clear hR hb2) | (go_at_call 62; refine (rlittle_4 md _ (by omega)).mono ?_; rintro e w3 ⟨⟨y, rfl, hy⟩, hb3⟩; have h2 := hv2.later hb3; have hy1 := hy.mono hz2; have hbw3 := hbw.trans (hb3.mono (by omega)); have hz3 := Nat.le_trans hz2 hb3.size; clear hb3 hy hbw))
  go_ret
  exact ⟨⟨_, rfl, (hB'.mono (by omega)).cast (by simp only [List.cons_append, List.nil_append, List.cons.injEq, and_true, rmI, sibI, loR]; rw [hsc'.out]; omega)⟩, hbw3.trans (hb'.mono (by omega))⟩
set_option maxHeartbeats 4000000 in
set_option maxRecDepth 100000 in
theorem rplace_V2b_Sn (mid mb mi ms md : Int) (w : World) (hm : 0 ≤ mid ∧ mid ≤ 15) (hb : 0 ≤ mb ∧ mb ≤ 15) (hd : -2147483648 ≤ md ∧ md ≤ 2147483647) (hsc : scaleI ms = 0) (h0 : (md == 0) = false) (h1 : decide (-128 ≤ md) = false) (h2 : (mi != -1) = false) (h3 : (mb % 8 == 4) = true) (h4 : (ms == 2) = false) (h5 : (ms == 4) = false) (h6 : (ms == 8) = false) :
    Calls Try.prog 63 #[.int .i64 mid, .agg #[.int .i64 mb, .int .i64 mi, .int .i64 ms, .int .i64 md]] w fun e w' => RetB w.heap.size (rmI 2 mid 4 :: sibI ms 4 mb :: littleL md 4) e w' ∧ Below w.heap.size w w' := by
  have hsc' := hidd hsc
  clear hsc
  go_enter Try.func63, Try.ntmps63
  go_wp2_with fail
  go_region
  go_wp2_with (first | (at_builtin; refine wpList_appB (xs := [(128 + 8 * (mid % 8) + 4), (32 + mb % 8)]) (bs := littleL md 4) (B := w.heap.size + 1) rfl _ _ rfl rfl rfl h2 hy1 hz3 (by rw [littleL_length]; simp) ?_; intro v' w' hB' hb') | (at_builtin; have hR := rp_two w mb mi ms md (128 + 8 * (mid % 8) + 4) (32 + mb % 8); refine wpList_appB (xs := [(128 + 8 * (mid % 8) + 4)]) (bs := [(32 + mb % 8)]) (B := w.heap.size + 1) rfl _ _ rfl rfl rfl hR.1 hR.2.1 hR.2.2.1 (by simp) ?_; intro v2 w2 hv2 hb2; obtain ⟨hbw, hc, hz2⟩ := hR.2.2.2 w2 hb2; clear hR hb2) | (go_at_call 62; refine (rlittle_4 md _ (by omega)).mono ?_; rintro e w3 ⟨⟨y, rfl, hy⟩, hb3⟩; have h2 := hv2.later hb3; have hy1 := hy.mono hz2; have hbw3 := hbw.trans (hb3.mono (by omega)); have hz3 := Nat.le_trans hz2 hb3.size; clear hb3 hy hbw))
  go_ret
  exact ⟨⟨_, rfl, (hB'.mono (by omega)).cast (by simp only [List.cons_append, List.nil_append, List.cons.injEq, and_true, rmI, sibI, loR]; rw [hsc'.out]; omega)⟩, hbw3.trans (hb'.mono (by omega))⟩
set_option maxHeartbeats 4000000 in
set_option maxRecDepth 100000 in
theorem rplace_V2b_S0 (mid mb mi ms md : Int) (w : World) (hm : 0 ≤ mid ∧ mid ≤ 15) (hb : 0 ≤ mb ∧ mb ≤ 15) (hd : -2147483648 ≤ md ∧ md ≤ 2147483647) (h0 : (md == 0) = false) (h1 : decide (-128 ≤ md) = false) (h2 : (mi != -1) = false) (h3 : (mb % 8 == 4) = false) :
    Calls Try.prog 63 #[.int .i64 mid, .agg #[.int .i64 mb, .int .i64 mi, .int .i64 ms, .int .i64 md]] w fun e w' => RetB w.heap.size (rmI 2 mid (loR mb) :: littleL md 4) e w' ∧ Below w.heap.size w w' := by
  go_enter Try.func63, Try.ntmps63
  go_wp2_with fail
  go_at_call 62
  refine (rlittle_4 md _ (by omega)).mono ?_
  rintro e w3 ⟨⟨y, rfl, hy⟩, hb3⟩
  have hR := rp_one w mb mi ms md (128 + 8 * (mid % 8) + mb % 8)
  have h1 := hR.1.later hb3
  obtain ⟨hbw, hz3⟩ := hR.2 w3 (hb3.mono (by simp only [World.size_alloc]; omega))
  have hy1 := hy.mono (show w.heap.size + 1 ≤ _ by simp only [World.size_alloc]; omega)
  clear hR hb3 hy
  go_wp2_with (at_builtin; refine wpList_appB (xs := [(128 + 8 * (mid % 8) + mb % 8)]) (bs := littleL md 4) (B := w.heap.size + 1) rfl _ _ rfl rfl rfl h1 hy1 hz3 (by rw [littleL_length]; simp) ?_; intro v' w' hB' hb')
  go_ret
  exact ⟨⟨_, rfl, (hB'.mono (by omega)).cast (by simp only [List.cons_append, List.nil_append, List.cons.injEq, and_true, rmI, loR]; try omega)⟩, hbw.trans (hb'.mono (by omega))⟩
end Go.Proofs.Ytakmpnmmcjnecaa
