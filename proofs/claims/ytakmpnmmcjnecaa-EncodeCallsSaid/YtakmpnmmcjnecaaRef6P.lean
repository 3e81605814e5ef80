/- keysmithref06.place (the document's answer for layer 6), joined. Conditions: registers are registers, the place may be. -/
import Derived.Test.YtakmpnmmcjnecaaRef6PA
import Derived.Test.YtakmpnmmcjnecaaRef6PB
import Derived.Test.YtakmpnmmcjnecaaRef6PC
import Derived.Test.YtakmpnmmcjnecaaDec
namespace Go.Proofs.Ytakmpnmmcjnecaa
open Go.RowKit Calm

theorem V_or (mb md : Int) (P : Prop)
    (c0 : (md == 0) = true → (mb % 8 != 5) = true → modI mb md = 0 → lenI mb md = 0 → P)
    (c1a : (md == 0) = true → (mb % 8 != 5) = false → decide (-128 ≤ md) = true → decide (md < 128) = true → modI mb md = 1 → lenI mb md = 1 → P)
    (c1b : (md == 0) = false → decide (-128 ≤ md) = true → decide (md < 128) = true → modI mb md = 1 → lenI mb md = 1 → P)
    (c2a : (md == 0) = false → decide (-128 ≤ md) = true → decide (md < 128) = false → modI mb md = 2 → lenI mb md = 4 → P)
    (c2b : (md == 0) = false → decide (-128 ≤ md) = false → modI mb md = 2 → lenI mb md = 4 → P)
    : P := by
  have hl : loR mb = mb % 8 := rfl
  by_cases h1 : md = 0
  · have e0 : (md == 0) = true := by simp [h1]
    by_cases h5 : mb % 8 = 5
    · have hb : byteB md = true := by rw [h1]; decide
      have hn : ¬ (md = 0 ∧ loR mb ≠ 5) := by rw [hl]; omega
      exact c1a e0 (by simp [h5]) (by simp; omega) (by simp; omega) (by unfold modI; rw [if_neg hn, hb]; rfl) (by unfold lenI; rw [if_neg hn, hb]; rfl)
    · have hn : md = 0 ∧ loR mb ≠ 5 := ⟨h1, by rw [hl]; exact h5⟩
      exact c0 e0 (by simp [h5]) (by unfold modI; rw [if_pos hn]) (by unfold lenI; rw [if_pos hn])
  · have e0 : (md == 0) = false := by simp [h1]
    have hn : ¬ (md = 0 ∧ loR mb ≠ 5) := fun h => h1 h.1
    by_cases h2 : -128 ≤ md
    · by_cases h3 : md < 128
      · have hb : byteB md = true := by unfold byteB; simp; omega
        exact c1b e0 (by simp [h2]) (by simp [h3]) (by unfold modI; rw [if_neg hn, hb]; rfl) (by unfold lenI; rw [if_neg hn, hb]; rfl)
      · have hb : byteB md = false := by unfold byteB; simp; omega
        exact c2a e0 (by simp [h2]) (by simp; omega) (by unfold modI; rw [if_neg hn, hb]; rfl) (by unfold lenI; rw [if_neg hn, hb]; rfl)
    · have hb : byteB md = false := by unfold byteB; simp; omega
      exact c2b e0 (by simp; omega) (by unfold modI; rw [if_neg hn, hb]; rfl) (by unfold lenI; rw [if_neg hn, hb]; rfl)
theorem rplace_S1 (mid mb mi ms md : Int) (w : World) (hm : 0 ≤ mid ∧ mid ≤ 15) (hb : 0 ≤ mb ∧ mb ≤ 15) (hmi : 0 ≤ mi ∧ mi ≤ 15) (hsc : scaleI ms = 0) (hd : -2147483648 ≤ md ∧ md ≤ 2147483647) (g0 : (mi != -1) = true) (g1 : (ms == 2) = false) (g2 : (ms == 4) = false) (g3 : (ms == 8) = false) :
    Calls Try.prog 63 #[.int .i64 mid, .agg #[.int .i64 mb, .int .i64 mi, .int .i64 ms, .int .i64 md]] w fun e w' => RetB w.heap.size (rmI (modI mb md) mid 4 :: sibI ms (loR mi) mb :: littleL md (lenI mb md)) e w' ∧ Below w.heap.size w w' := by
  refine V_or mb md _ ?_ ?_ ?_ ?_ ?_
  · intro f0 f1 e1 e2; rw [e1, e2]; exact rplace_V0_S1 mid mb mi ms md w hm hb hmi hd hsc f0 f1 g0 g1 g2 g3
  · intro f0 f1 f2 f3 e1 e2; rw [e1, e2]; exact rplace_V1a_S1 mid mb mi ms md w hm hb hmi hd hsc f0 f1 f2 f3 g0 g1 g2 g3
  · intro f0 f1 f2 e1 e2; rw [e1, e2]; exact rplace_V1b_S1 mid mb mi ms md w hm hb hmi hd hsc f0 f1 f2 g0 g1 g2 g3
  · intro f0 f1 f2 e1 e2; rw [e1, e2]; exact rplace_V2a_S1 mid mb mi ms md w hm hb hmi hd hsc f0 f1 f2 g0 g1 g2 g3
  · intro f0 f1 e1 e2; rw [e1, e2]; exact rplace_V2b_S1 mid mb mi ms md w hm hb hmi hd hsc f0 f1 g0 g1 g2 g3
theorem rplace_S2 (mid mb mi ms md : Int) (w : World) (hm : 0 ≤ mid ∧ mid ≤ 15) (hb : 0 ≤ mb ∧ mb ≤ 15) (hmi : 0 ≤ mi ∧ mi ≤ 15) (hsc : scaleI ms = 1) (hd : -2147483648 ≤ md ∧ md ≤ 2147483647) (g0 : (mi != -1) = true) (g1 : (ms == 2) = true) :
    Calls Try.prog 63 #[.int .i64 mid, .agg #[.int .i64 mb, .int .i64 mi, .int .i64 ms, .int .i64 md]] w fun e w' => RetB w.heap.size (rmI (modI mb md) mid 4 :: sibI ms (loR mi) mb :: littleL md (lenI mb md)) e w' ∧ Below w.heap.size w w' := by
  refine V_or mb md _ ?_ ?_ ?_ ?_ ?_
  · intro f0 f1 e1 e2; rw [e1, e2]; exact rplace_V0_S2 mid mb mi ms md w hm hb hmi hd hsc f0 f1 g0 g1
  · intro f0 f1 f2 f3 e1 e2; rw [e1, e2]; exact rplace_V1a_S2 mid mb mi ms md w hm hb hmi hd hsc f0 f1 f2 f3 g0 g1
  · intro f0 f1 f2 e1 e2; rw [e1, e2]; exact rplace_V1b_S2 mid mb mi ms md w hm hb hmi hd hsc f0 f1 f2 g0 g1
  · intro f0 f1 f2 e1 e2; rw [e1, e2]; exact rplace_V2a_S2 mid mb mi ms md w hm hb hmi hd hsc f0 f1 f2 g0 g1
  · intro f0 f1 e1 e2; rw [e1, e2]; exact rplace_V2b_S2 mid mb mi ms md w hm hb hmi hd hsc f0 f1 g0 g1
theorem rplace_S4 (mid mb mi ms md : Int) (w : World) (hm : 0 ≤ mid ∧ mid ≤ 15) (hb : 0 ≤ mb ∧ mb ≤ 15) (hmi : 0 ≤ mi ∧ mi ≤ 15) (hsc : scaleI ms = 2) (hd : -2147483648 ≤ md ∧ md ≤ 2147483647) (g0 : (mi != -1) = true) (g1 : (ms == 2) = false) (g2 : (ms == 4) = true) :
    Calls Try.prog 63 #[.int .i64 mid, .agg #[.int .i64 mb, .int .i64 mi, .int .i64 ms, .int .i64 md]] w fun e w' => RetB w.heap.size (rmI (modI mb md) mid 4 :: sibI ms (loR mi) mb :: littleL md (lenI mb md)) e w' ∧ Below w.heap.size w w' := by
  refine V_or mb md _ ?_ ?_ ?_ ?_ ?_
  · intro f0 f1 e1 e2; rw [e1, e2]; exact rplace_V0_S4 mid mb mi ms md w hm hb hmi hd hsc f0 f1 g0 g1 g2
  · intro f0 f1 f2 f3 e1 e2; rw [e1, e2]; exact rplace_V1a_S4 mid mb mi ms md w hm hb hmi hd hsc f0 f1 f2 f3 g0 g1 g2
  · intro f0 f1 f2 e1 e2; rw [e1, e2]; exact rplace_V1b_S4 mid mb mi ms md w hm hb hmi hd hsc f0 f1 f2 g0 g1 g2
  · intro f0 f1 f2 e1 e2; rw [e1, e2]; exact rplace_V2a_S4 mid mb mi ms md w hm hb hmi hd hsc f0 f1 f2 g0 g1 g2
  · intro f0 f1 e1 e2; rw [e1, e2]; exact rplace_V2b_S4 mid mb mi ms md w hm hb hmi hd hsc f0 f1 g0 g1 g2
theorem rplace_S8 (mid mb mi ms md : Int) (w : World) (hm : 0 ≤ mid ∧ mid ≤ 15) (hb : 0 ≤ mb ∧ mb ≤ 15) (hmi : 0 ≤ mi ∧ mi ≤ 15) (hsc : scaleI ms = 3) (hd : -2147483648 ≤ md ∧ md ≤ 2147483647) (g0 : (mi != -1) = true) (g1 : (ms == 2) = false) (g2 : (ms == 4) = false) (g3 : (ms == 8) = true) :
    Calls Try.prog 63 #[.int .i64 mid, .agg #[.int .i64 mb, .int .i64 mi, .int .i64 ms, .int .i64 md]] w fun e w' => RetB w.heap.size (rmI (modI mb md) mid 4 :: sibI ms (loR mi) mb :: littleL md (lenI mb md)) e w' ∧ Below w.heap.size w w' := by
  refine V_or mb md _ ?_ ?_ ?_ ?_ ?_
  · intro f0 f1 e1 e2; rw [e1, e2]; exact rplace_V0_S8 mid mb mi ms md w hm hb hmi hd hsc f0 f1 g0 g1 g2 g3
  · intro f0 f1 f2 f3 e1 e2; rw [e1, e2]; exact rplace_V1a_S8 mid mb mi ms md w hm hb hmi hd hsc f0 f1 f2 f3 g0 g1 g2 g3
  · intro f0 f1 f2 e1 e2; rw [e1, e2]; exact rplace_V1b_S8 mid mb mi ms md w hm hb hmi hd hsc f0 f1 f2 g0 g1 g2 g3
  · intro f0 f1 f2 e1 e2; rw [e1, e2]; exact rplace_V2a_S8 mid mb mi ms md w hm hb hmi hd hsc f0 f1 f2 g0 g1 g2 g3
  · intro f0 f1 e1 e2; rw [e1, e2]; exact rplace_V2b_S8 mid mb mi ms md w hm hb hmi hd hsc f0 f1 g0 g1 g2 g3
theorem rplace_Sn (mid mb mi ms md : Int) (w : World) (hm : 0 ≤ mid ∧ mid ≤ 15) (hb : 0 ≤ mb ∧ mb ≤ 15) (hsc : scaleI ms = 0) (hd : -2147483648 ≤ md ∧ md ≤ 2147483647) (g0 : (mi != -1) = false) (g1 : (mb % 8 == 4) = true) (g2 : (ms == 2) = false) (g3 : (ms == 4) = false) (g4 : (ms == 8) = false) :
    Calls Try.prog 63 #[.int .i64 mid, .agg #[.int .i64 mb, .int .i64 mi, .int .i64 ms, .int .i64 md]] w fun e w' => RetB w.heap.size (rmI (modI mb md) mid 4 :: sibI ms 4 mb :: littleL md (lenI mb md)) e w' ∧ Below w.heap.size w w' := by
  refine V_or mb md _ ?_ ?_ ?_ ?_ ?_
  · intro f0 f1 e1 e2; rw [e1, e2]; exact rplace_V0_Sn mid mb mi ms md w hm hb hd hsc f0 f1 g0 g1 g2 g3 g4
  · intro f0 f1 f2 f3 e1 e2; rw [e1, e2]; exact rplace_V1a_Sn mid mb mi ms md w hm hb hd hsc f0 f1 f2 f3 g0 g1 g2 g3 g4
  · intro f0 f1 f2 e1 e2; rw [e1, e2]; exact rplace_V1b_Sn mid mb mi ms md w hm hb hd hsc f0 f1 f2 g0 g1 g2 g3 g4
  · intro f0 f1 f2 e1 e2; rw [e1, e2]; exact rplace_V2a_Sn mid mb mi ms md w hm hb hd hsc f0 f1 f2 g0 g1 g2 g3 g4
  · intro f0 f1 e1 e2; rw [e1, e2]; exact rplace_V2b_Sn mid mb mi ms md w hm hb hd hsc f0 f1 g0 g1 g2 g3 g4
theorem rplace_S0 (mid mb mi ms md : Int) (w : World) (hm : 0 ≤ mid ∧ mid ≤ 15) (hb : 0 ≤ mb ∧ mb ≤ 15) (hd : -2147483648 ≤ md ∧ md ≤ 2147483647) (g0 : (mi != -1) = false) (g1 : (mb % 8 == 4) = false) :
    Calls Try.prog 63 #[.int .i64 mid, .agg #[.int .i64 mb, .int .i64 mi, .int .i64 ms, .int .i64 md]] w fun e w' => RetB w.heap.size (rmI (modI mb md) mid (loR mb) :: littleL md (lenI mb md)) e w' ∧ Below w.heap.size w w' := by
  refine V_or mb md _ ?_ ?_ ?_ ?_ ?_
  · intro f0 f1 e1 e2; rw [e1, e2]; exact rplace_V0_S0 mid mb mi ms md w hm hb hd f0 f1 g0 g1
  · intro f0 f1 f2 f3 e1 e2; rw [e1, e2]; exact rplace_V1a_S0 mid mb mi ms md w hm hb hd f0 f1 f2 f3 g0 g1
  · intro f0 f1 f2 e1 e2; rw [e1, e2]; exact rplace_V1b_S0 mid mb mi ms md w hm hb hd f0 f1 f2 g0 g1
  · intro f0 f1 f2 e1 e2; rw [e1, e2]; exact rplace_V2a_S0 mid mb mi ms md w hm hb hd f0 f1 f2 g0 g1
  · intro f0 f1 e1 e2; rw [e1, e2]; exact rplace_V2b_S0 mid mb mi ms md w hm hb hd f0 f1 g0 g1
theorem rplace6_any (mid mb mi ms md : Int) (w : World) (hm : Reg mid) (hp : plc mb mi ms md = true) :
    Calls Try.prog 63 #[.int .i64 mid, .agg #[.int .i64 mb, .int .i64 mi, .int .i64 ms, .int .i64 md]] w fun e w' => RetB w.heap.size (placeL mid mb mi ms md) e w' ∧ Below w.heap.size w w' := by
  obtain ⟨hb, hd, hi⟩ := plc_open hp
  have hl : loR mb = mb % 8 := rfl
  rcases hi with ⟨hn, hs⟩ | ⟨hn, hr, _, hs⟩
  · have g0 : (mi != -1) = false := by simp [hn]
    by_cases h4 : mb % 8 = 4
    · have e : placeL mid mb mi ms md = rmI (modI mb md) mid 4 :: sibI ms 4 mb :: littleL md (lenI mb md) := by unfold placeL; rw [if_neg (by simp [hn]), if_pos (by rw [hl]; exact h4)]
      rw [e]
      exact rplace_Sn mid mb mi ms md w hm hb (by rw [hs]; rfl) hd g0 (by simp [h4]) (by simp [hs]) (by simp [hs]) (by simp [hs])
    · have e : placeL mid mb mi ms md = rmI (modI mb md) mid (loR mb) :: littleL md (lenI mb md) := by unfold placeL; rw [if_neg (by simp [hn]), if_neg (by rw [hl]; exact h4)]
      rw [e]
      exact rplace_S0 mid mb mi ms md w hm hb hd g0 (by simp [h4])
  · have g0 : (mi != -1) = true := by simp [hn]
    have e : placeL mid mb mi ms md = rmI (modI mb md) mid 4 :: sibI ms (loR mi) mb :: littleL md (lenI mb md) := by unfold placeL; rw [if_pos hn]
    rw [e]
    rcases hs with h | h | h | h
    · exact rplace_S1 mid mb mi ms md w hm hb hr (by rw [h]; rfl) hd g0 (by simp [h]) (by simp [h]) (by simp [h])
    · exact rplace_S2 mid mb mi ms md w hm hb hr (by rw [h]; rfl) hd g0 (by simp [h])
    · exact rplace_S4 mid mb mi ms md w hm hb hr (by rw [h]; rfl) hd g0 (by simp [h]) (by simp [h])
    · exact rplace_S8 mid mb mi ms md w hm hb hr (by rw [h]; rfl) hd g0 (by simp [h]) (by simp [h]) (by simp [h])
end Go.Proofs.Ytakmpnmmcjnecaa
