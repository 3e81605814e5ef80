/- encode.place (layer 6): the bytes of a place that may be. Conditions: the register is one, the place may be. -/
import Derived.Test.YtakmpnmmcjnecaaPlaceA
import Derived.Test.YtakmpnmmcjnecaaPlaceB
import Derived.Test.YtakmpnmmcjnecaaPlaceC
namespace Go.Proofs.Ytakmpnmmcjnecaa
open Go.RowKit Calm

def byteB (n : Int) : Bool := decide (-128 ≤ n) && decide (n ≤ 127)
def modI (mb md : Int) : Int := if md = 0 ∧ loR mb ≠ 5 then 0 else if byteB md then 1 else 2
def lenI (mb md : Int) : Nat := if md = 0 ∧ loR mb ≠ 5 then 0 else if byteB md then 1 else 4
def placeL (mid mb mi ms md : Int) : List Int :=
  if mi ≠ -1 then rmI (modI mb md) mid 4 :: sibI ms (loR mi) mb :: littleL md (lenI mb md)
  else if loR mb = 4 then rmI (modI mb md) mid 4 :: sibI ms 4 mb :: littleL md (lenI mb md)
  else rmI (modI mb md) mid (loR mb) :: littleL md (lenI mb md)
theorem byte_form (n : Int) (h : -2147483648 ≤ n ∧ n ≤ 2147483647) : (n == wrap64 (IntKind.i8.wrap n)) = byteB n := by
  have e : IntKind.i8.wrap n = (n + 128) % 256 - 128 := by
    simp only [IntKind.wrap, IntKind.bits, IntKind.signed]
    simp
    split <;> omega
  rw [e]
  unfold byteB wrap64
  rw [Bool.eq_iff_iff]; simp; omega
theorem plc_facts {mb mi ms md : Int} (h : plc mb mi ms md = true) : (0 ≤ mb ∧ mb ≤ 15) ∧ (-2147483648 ≤ md ∧ md ≤ 2147483647) ∧ (mi = -1 ∨ 0 ≤ mi ∧ mi ≤ 15) ∧ (ms = 1 ∨ ms = 2 ∨ ms = 4 ∨ ms = 8) := by
  unfold plc at h
  simp only [Bool.and_eq_true] at h
  obtain ⟨⟨h1, h2⟩, h3⟩ := h
  simp only [reg, smallB, Bool.and_eq_true, decide_eq_true_eq] at h1 h2
  refine ⟨h1, h2, ?_⟩
  by_cases hm : mi = -1
  · rw [if_pos hm] at h3
    exact ⟨.inl hm, .inl (by simpa using h3)⟩
  · rw [if_neg hm] at h3
    simp [reg] at h3
    exact ⟨.inr h3.1.1, by omega⟩
theorem eplace_any (mid mb mi ms md : Int) (w : World) (hm : 0 ≤ mid ∧ mid ≤ 15) (h : plc mb mi ms md = true) :
    Calls Try.prog 83 #[.int .i64 mid, .agg #[.int .i64 mb, .int .i64 mi, .int .i64 ms, .int .i64 md]] w fun e w' => RetB w.heap.size (placeL mid mb mi ms md) e w' ∧ Below w.heap.size w w' := by
  obtain ⟨hb, hd, hi, hs⟩ := plc_facts h
  have hbf := byte_form md hd
  unfold placeL
  by_cases hi1 : mi = -1
  · have ci : (mi != -1) = false := by simp [hi1]
    rw [if_neg (by simp [hi1])]
    by_cases h4 : loR mb = 4
    · have c4 : (loR mb == 4) = true := by simp [h4]
      rw [if_pos h4]
      by_cases h0 : md = 0
      · by_cases h5 : loR mb = 5
        · omega
        · have hm1 : modI mb md = 0 := by unfold modI; rw [if_pos ⟨h0, h5⟩]
          have hl1 : lenI mb md = 0 := by unfold lenI; rw [if_pos ⟨h0, h5⟩]
          rw [hm1, hl1]
          exact place_V0_S2 mid mb mi ms md w hm hb hs hd (by simp [h0]) (by simp [h5]) ci c4
      · cases hb8 : byteB md with
        | true =>
          have hm1 : modI mb md = 1 := by unfold modI; rw [if_neg (by simp [h0]), hb8]; rfl
          have hl1 : lenI mb md = 1 := by unfold lenI; rw [if_neg (by simp [h0]), hb8]; rfl
          rw [hm1, hl1]
          exact place_V1b_S2 mid mb mi ms md w hm hb hs hd (by simp [h0]) (by rw [hbf, hb8]) ci c4
        | false =>
          have hm1 : modI mb md = 2 := by unfold modI; rw [if_neg (by simp [h0]), hb8]; rfl
          have hl1 : lenI mb md = 4 := by unfold lenI; rw [if_neg (by simp [h0]), hb8]; rfl
          rw [hm1, hl1]
          exact place_V2_S2 mid mb mi ms md w hm hb hs hd (by simp [h0]) (by rw [hbf, hb8]) ci c4
    · have c4 : (loR mb == 4) = false := by simpa using h4
      rw [if_neg h4]
      by_cases h0 : md = 0
      · by_cases h5 : loR mb = 5
        · have hb8 : byteB md = true := by subst h0; decide
          have hm1 : modI mb md = 1 := by unfold modI; rw [if_neg (by simp [h5]), hb8]; rfl
          have hl1 : lenI mb md = 1 := by unfold lenI; rw [if_neg (by simp [h5]), hb8]; rfl
          rw [hm1, hl1]
          exact place_V1a_S0 mid mb mi ms md w hm hb hd (by simp [h0]) (by simp [h5]) (by rw [hbf, hb8]) ci c4
        · have hm1 : modI mb md = 0 := by unfold modI; rw [if_pos ⟨h0, h5⟩]
          have hl1 : lenI mb md = 0 := by unfold lenI; rw [if_pos ⟨h0, h5⟩]
          rw [hm1, hl1]
          exact place_V0_S0 mid mb mi ms md w hm hb hd (by simp [h0]) (by simp [h5]) ci c4
      · cases hb8 : byteB md with
        | true =>
          have hm1 : modI mb md = 1 := by unfold modI; rw [if_neg (by simp [h0]), hb8]; rfl
          have hl1 : lenI mb md = 1 := by unfold lenI; rw [if_neg (by simp [h0]), hb8]; rfl
          rw [hm1, hl1]
          exact place_V1b_S0 mid mb mi ms md w hm hb hd (by simp [h0]) (by rw [hbf, hb8]) ci c4
        | false =>
          have hm1 : modI mb md = 2 := by unfold modI; rw [if_neg (by simp [h0]), hb8]; rfl
          have hl1 : lenI mb md = 4 := by unfold lenI; rw [if_neg (by simp [h0]), hb8]; rfl
          rw [hm1, hl1]
          exact place_V2_S0 mid mb mi ms md w hm hb hd (by simp [h0]) (by rw [hbf, hb8]) ci c4
  · have ci : (mi != -1) = true := by simp [hi1]
    have hmi : 0 ≤ mi ∧ mi ≤ 15 := by omega
    rw [if_pos hi1]
    by_cases h0 : md = 0
    · by_cases h5 : loR mb = 5
      · have hb8 : byteB md = true := by subst h0; decide
        have hm1 : modI mb md = 1 := by unfold modI; rw [if_neg (by simp [h5]), hb8]; rfl
        have hl1 : lenI mb md = 1 := by unfold lenI; rw [if_neg (by simp [h5]), hb8]; rfl
        rw [hm1, hl1]
        exact place_V1a_S1 mid mb mi ms md w hm hb hs hd (by simp [h0]) (by simp [h5]) (by rw [hbf, hb8]) ci hmi
      · have hm1 : modI mb md = 0 := by unfold modI; rw [if_pos ⟨h0, h5⟩]
        have hl1 : lenI mb md = 0 := by unfold lenI; rw [if_pos ⟨h0, h5⟩]
        rw [hm1, hl1]
        exact place_V0_S1 mid mb mi ms md w hm hb hs hd (by simp [h0]) (by simp [h5]) ci hmi
    · cases hb8 : byteB md with
      | true =>
        have hm1 : modI mb md = 1 := by unfold modI; rw [if_neg (by simp [h0]), hb8]; rfl
        have hl1 : lenI mb md = 1 := by unfold lenI; rw [if_neg (by simp [h0]), hb8]; rfl
        rw [hm1, hl1]
        exact place_V1b_S1 mid mb mi ms md w hm hb hs hd (by simp [h0]) (by rw [hbf, hb8]) ci hmi
      | false =>
        have hm1 : modI mb md = 2 := by unfold modI; rw [if_neg (by simp [h0]), hb8]; rfl
        have hl1 : lenI mb md = 4 := by unfold lenI; rw [if_neg (by simp [h0]), hb8]; rfl
        rw [hm1, hl1]
        exact place_V2_S1 mid mb mi ms md w hm hb hs hd (by simp [h0]) (by rw [hbf, hb8]) ci hmi
end Go.Proofs.Ytakmpnmmcjnecaa
