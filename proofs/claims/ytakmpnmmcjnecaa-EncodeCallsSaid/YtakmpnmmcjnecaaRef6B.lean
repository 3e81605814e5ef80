/- keysmithref06.bytes (the document's answer for layer 6), operation by operation: those whose bytes are written out. Conditions: registers are registers. -/
import Derived.Test.YtakmpnmmcjnecaaRef6A
namespace Go.Proofs.Ytakmpnmmcjnecaa
open Go.RowKit Calm

theorem lit1 (w : World) (A : Obj) (cs : Array Value) (bs : List Int) (n : Nat) (hn : n = bs.length) (hcs : cs.toList = bs.map (Value.int .u8)) (hl : bs.length ≤ 1000) :
    RetB w.heap.size bs (.returned (.slice (some ⟨w.heap.size + 1, 0, none⟩) n n)) ((w.alloc A).alloc (.cells cs 5)).drew ∧ Below w.heap.size w ((w.alloc A).alloc (.cells cs 5)).drew := by
  refine ⟨⟨_, rfl, ?_⟩, below_dr (bal (bal (Below.refl _ _) _) _)⟩
  have := IsB.lit (w.alloc A) w.heap.size bs n hn cs hcs (by simp) hl
  rw [World.size_alloc] at this
  exact this
theorem lit1' (w : World) (A : Obj) (cs : Array Value) (bs : List Int) (n : Nat) (hn : n = bs.length) (hcs : cs.toList = bs.map (Value.int .u8)) (hl : bs.length ≤ 1000) :
    RetB w.heap.size bs (.returned (.slice (some ⟨w.heap.size + 1, 0, none⟩) n n)) ((w.alloc A).alloc (.cells cs 5)) ∧ Below w.heap.size w ((w.alloc A).alloc (.cells cs 5)) := by
  refine ⟨⟨_, rfl, ?_⟩, (bal (bal (Below.refl _ _) _) _)⟩
  have := IsB.lit (w.alloc A) w.heap.size bs n hn cs hcs (by simp) hl
  rw [World.size_alloc] at this
  exact this
theorem rrex_same (a b c : Int) (w : World) (h1 : -1 ≤ a ∧ a ≤ 15) (h2 : -1 ≤ b ∧ b ≤ 15) (h3 : -1 ≤ c ∧ c ≤ 15) : Calls Try.prog 61 #[.int .i64 a, .int .i64 b, .int .i64 c] w fun e w' => e = .returned (.int .u8 (rexI a b c)) ∧ w' = w :=
  (rrex_any a b c w h1 h2 h3).mono fun _ _ ⟨x, y⟩ => ⟨x, y.symm⟩
theorem rboth_same (a b : Int) (w : World) (h1 : 0 ≤ a ∧ a ≤ 15) (h2 : 0 ≤ b ∧ b ≤ 15) : Calls Try.prog 64 #[.int .i64 a, .int .i64 b] w fun e w' => e = .returned (.int .u8 (bothI a b)) ∧ w' = w :=
  (rboth_any a b w h1 h2).mono fun _ _ ⟨x, y⟩ => ⟨x, y.symm⟩
theorem rhigh_same (r : Int) (w : World) (h : -1 ≤ r ∧ r ≤ 15) : Calls Try.prog 65 #[.int .i64 r] w fun e w' => e = .returned (.int .u8 (hiR r)) ∧ w' = w :=
  (rhigh_any r w h).mono fun _ _ ⟨x, y⟩ => ⟨x, y.symm⟩
theorem r5 : (0 : Int) ≤ 5 ∧ (5 : Int) ≤ 15 := by omega
theorem mx1_form (d t : Int) : ((66 + 128 * ((1 - hiR d) % 256) % 256) % 256 + 32 * ((1 - hiR t) % 256) % 256) % 256 = mulx1 d t := by
  unfold mulx1
  rcases hiR_01 d with h1 | h1 <;> rcases hiR_01 t with h2 | h2 <;> rw [h1, h2] <;> decide +kernel
theorem mx2_form (s : Int) (h : 0 ≤ s ∧ s ≤ 15) : (131 + 8 * (wrap64 (15 - s) % 256) % 256) % 256 = mulx2 s := by
  unfold mulx2 wrap64; omega
theorem rcs_1 (w : World) : Calls Try.prog 66 #[.int .i64 1] w fun e w' => e = .returned (.int .u8 137) ∧ w' = w := (rcode_1 w).mono fun _ _ ⟨x, y⟩ => ⟨x, y.symm⟩
theorem rcs_6 (w : World) : Calls Try.prog 66 #[.int .i64 6] w fun e w' => e = .returned (.int .u8 1) ∧ w' = w := (rcode_6 w).mono fun _ _ ⟨x, y⟩ => ⟨x, y.symm⟩
theorem rcs_7 (w : World) : Calls Try.prog 66 #[.int .i64 7] w fun e w' => e = .returned (.int .u8 17) ∧ w' = w := (rcode_7 w).mono fun _ _ ⟨x, y⟩ => ⟨x, y.symm⟩
theorem rcs_8 (w : World) : Calls Try.prog 66 #[.int .i64 8] w fun e w' => e = .returned (.int .u8 41) ∧ w' = w := (rcode_8 w).mono fun _ _ ⟨x, y⟩ => ⟨x, y.symm⟩
theorem rcs_9 (w : World) : Calls Try.prog 66 #[.int .i64 9] w fun e w' => e = .returned (.int .u8 25) ∧ w' = w := (rcode_9 w).mono fun _ _ ⟨x, y⟩ => ⟨x, y.symm⟩
theorem rcs_10 (w : World) : Calls Try.prog 66 #[.int .i64 10] w fun e w' => e = .returned (.int .u8 33) ∧ w' = w := (rcode_10 w).mono fun _ _ ⟨x, y⟩ => ⟨x, y.symm⟩
theorem rcs_11 (w : World) : Calls Try.prog 66 #[.int .i64 11] w fun e w' => e = .returned (.int .u8 9) ∧ w' = w := (rcode_11 w).mono fun _ _ ⟨x, y⟩ => ⟨x, y.symm⟩
theorem rcs_12 (w : World) : Calls Try.prog 66 #[.int .i64 12] w fun e w' => e = .returned (.int .u8 49) ∧ w' = w := (rcode_12 w).mono fun _ _ ⟨x, y⟩ => ⟨x, y.symm⟩
theorem rcs_13 (w : World) : Calls Try.prog 66 #[.int .i64 13] w fun e w' => e = .returned (.int .u8 57) ∧ w' = w := (rcode_13 w).mono fun _ _ ⟨x, y⟩ => ⟨x, y.symm⟩
theorem rcs_14 (w : World) : Calls Try.prog 66 #[.int .i64 14] w fun e w' => e = .returned (.int .u8 133) ∧ w' = w := (rcode_14 w).mono fun _ _ ⟨x, y⟩ => ⟨x, y.symm⟩
theorem stackL_hi (c r : Int) (h : 8 ≤ r) : stackL c r = [65, c + loR r] := by unfold stackL hiR; rw [if_pos (by rw [if_pos h])]
theorem stackL_lo (c r : Int) (h : r < 8) (h0 : 0 ≤ r) : stackL c r = [c + r] := by
  have e : loR r = r := by unfold loR; omega
  unfold stackL hiR; rw [if_neg (by rw [if_neg (by omega)]; decide), e]
attribute [local irreducible] loR hiR rexI bothI
set_option maxHeartbeats 2000000 in
set_option maxRecDepth 100000 in
theorem rbytes_1 (d s t mb mi ms md imm : Int) (w : World) (hd : Reg d) (hs : Reg s) :
    Calls Try.prog 39 #[.agg #[.int .i64 1, .int .i64 d, .int .i64 s, .int .i64 t, .int .i64 mb, .int .i64 mi, .int .i64 ms, .int .i64 md, .int .i64 imm]] w fun e w' => RetB w.heap.size ([rexI s 0 d, 137, bothI s d]) e w' ∧ Below w.heap.size w w' := by
  go_enter Try.func39, Try.ntmps39
  go_wp2
  refine still_tail 13 (by kernel_rfl) (by kernel_rfl) ?_
  simp only [List.take_succ_cons, List.take_zero, List.drop_succ_cons, List.drop_zero]
  repeat (first | still_step | still_call (rrex_same _ _ _ _ hs.m m0 hd.m) | still_call (rcs_1 _) | still_call (rboth_same _ _ _ hs hd))
  refine wpStill_nil ?_
  go_wp2
  go_ret
  exact lit1 w _ _ ([rexI s 0 d, 137, bothI s d]) _ rfl rfl (by simp)
set_option maxHeartbeats 2000000 in
set_option maxRecDepth 100000 in
theorem rbytes_6 (d s t mb mi ms md imm : Int) (w : World) (hd : Reg d) (hs : Reg s) :
    Calls Try.prog 39 #[.agg #[.int .i64 6, .int .i64 d, .int .i64 s, .int .i64 t, .int .i64 mb, .int .i64 mi, .int .i64 ms, .int .i64 md, .int .i64 imm]] w fun e w' => RetB w.heap.size ([rexI s 0 d, 1, bothI s d]) e w' ∧ Below w.heap.size w w' := by
  go_enter Try.func39, Try.ntmps39
  go_wp2
  refine still_tail 13 (by kernel_rfl) (by kernel_rfl) ?_
  simp only [List.take_succ_cons, List.take_zero, List.drop_succ_cons, List.drop_zero]
  repeat (first | still_step | still_call (rrex_same _ _ _ _ hs.m m0 hd.m) | still_call (rcs_6 _) | still_call (rboth_same _ _ _ hs hd))
  refine wpStill_nil ?_
  go_wp2
  go_ret
  exact lit1 w _ _ ([rexI s 0 d, 1, bothI s d]) _ rfl rfl (by simp)
set_option maxHeartbeats 2000000 in
set_option maxRecDepth 100000 in
theorem rbytes_7 (d s t mb mi ms md imm : Int) (w : World) (hd : Reg d) (hs : Reg s) :
    Calls Try.prog 39 #[.agg #[.int .i64 7, .int .i64 d, .int .i64 s, .int .i64 t, .int .i64 mb, .int .i64 mi, .int .i64 ms, .int .i64 md, .int .i64 imm]] w fun e w' => RetB w.heap.size ([rexI s 0 d, 17, bothI s d]) e w' ∧ Below w.heap.size w w' := by
  go_enter Try.func39, Try.ntmps39
  go_wp2
  refine still_tail 13 (by kernel_rfl) (by kernel_rfl) ?_
  simp only [List.take_succ_cons, List.take_zero, List.drop_succ_cons, List.drop_zero]
  repeat (first | still_step | still_call (rrex_same _ _ _ _ hs.m m0 hd.m) | still_call (rcs_7 _) | still_call (rboth_same _ _ _ hs hd))
  refine wpStill_nil ?_
  go_wp2
  go_ret
  exact lit1 w _ _ ([rexI s 0 d, 17, bothI s d]) _ rfl rfl (by simp)
set_option maxHeartbeats 2000000 in
set_option maxRecDepth 100000 in
theorem rbytes_8 (d s t mb mi ms md imm : Int) (w : World) (hd : Reg d) (hs : Reg s) :
    Calls Try.prog 39 #[.agg #[.int .i64 8, .int .i64 d, .int .i64 s, .int .i64 t, .int .i64 mb, .int .i64 mi, .int .i64 ms, .int .i64 md, .int .i64 imm]] w fun e w' => RetB w.heap.size ([rexI s 0 d, 41, bothI s d]) e w' ∧ Below w.heap.size w w' := by
  go_enter Try.func39, Try.ntmps39
  go_wp2
  refine still_tail 13 (by kernel_rfl) (by kernel_rfl) ?_
  simp only [List.take_succ_cons, List.take_zero, List.drop_succ_cons, List.drop_zero]
  repeat (first | still_step | still_call (rrex_same _ _ _ _ hs.m m0 hd.m) | still_call (rcs_8 _) | still_call (rboth_same _ _ _ hs hd))
  refine wpStill_nil ?_
  go_wp2
  go_ret
  exact lit1 w _ _ ([rexI s 0 d, 41, bothI s d]) _ rfl rfl (by simp)
set_option maxHeartbeats 2000000 in
set_option maxRecDepth 100000 in
theorem rbytes_9 (d s t mb mi ms md imm : Int) (w : World) (hd : Reg d) (hs : Reg s) :
    Calls Try.prog 39 #[.agg #[.int .i64 9, .int .i64 d, .int .i64 s, .int .i64 t, .int .i64 mb, .int .i64 mi, .int .i64 ms, .int .i64 md, .int .i64 imm]] w fun e w' => RetB w.heap.size ([rexI s 0 d, 25, bothI s d]) e w' ∧ Below w.heap.size w w' := by
  go_enter Try.func39, Try.ntmps39
  go_wp2
  refine still_tail 13 (by kernel_rfl) (by kernel_rfl) ?_
  simp only [List.take_succ_cons, List.take_zero, List.drop_succ_cons, List.drop_zero]
  repeat (first | still_step | still_call (rrex_same _ _ _ _ hs.m m0 hd.m) | still_call (rcs_9 _) | still_call (rboth_same _ _ _ hs hd))
  refine wpStill_nil ?_
  go_wp2
  go_ret
  exact lit1 w _ _ ([rexI s 0 d, 25, bothI s d]) _ rfl rfl (by simp)
set_option maxHeartbeats 2000000 in
set_option maxRecDepth 100000 in
theorem rbytes_10 (d s t mb mi ms md imm : Int) (w : World) (hd : Reg d) (hs : Reg s) :
    Calls Try.prog 39 #[.agg #[.int .i64 10, .int .i64 d, .int .i64 s, .int .i64 t, .int .i64 mb, .int .i64 mi, .int .i64 ms, .int .i64 md, .int .i64 imm]] w fun e w' => RetB w.heap.size ([rexI s 0 d, 33, bothI s d]) e w' ∧ Below w.heap.size w w' := by
  go_enter Try.func39, Try.ntmps39
  go_wp2
  refine still_tail 13 (by kernel_rfl) (by kernel_rfl) ?_
  simp only [List.take_succ_cons, List.take_zero, List.drop_succ_cons, List.drop_zero]
  repeat (first | still_step | still_call (rrex_same _ _ _ _ hs.m m0 hd.m) | still_call (rcs_10 _) | still_call (rboth_same _ _ _ hs hd))
  refine wpStill_nil ?_
  go_wp2
  go_ret
  exact lit1 w _ _ ([rexI s 0 d, 33, bothI s d]) _ rfl rfl (by simp)
set_option maxHeartbeats 2000000 in
set_option maxRecDepth 100000 in
theorem rbytes_11 (d s t mb mi ms md imm : Int) (w : World) (hd : Reg d) (hs : Reg s) :
    Calls Try.prog 39 #[.agg #[.int .i64 11, .int .i64 d, .int .i64 s, .int .i64 t, .int .i64 mb, .int .i64 mi, .int .i64 ms, .int .i64 md, .int .i64 imm]] w fun e w' => RetB w.heap.size ([rexI s 0 d, 9, bothI s d]) e w' ∧ Below w.heap.size w w' := by
  go_enter Try.func39, Try.ntmps39
  go_wp2
  refine still_tail 13 (by kernel_rfl) (by kernel_rfl) ?_
  simp only [List.take_succ_cons, List.take_zero, List.drop_succ_cons, List.drop_zero]
  repeat (first | still_step | still_call (rrex_same _ _ _ _ hs.m m0 hd.m) | still_call (rcs_11 _) | still_call (rboth_same _ _ _ hs hd))
  refine wpStill_nil ?_
  go_wp2
  go_ret
  exact lit1 w _ _ ([rexI s 0 d, 9, bothI s d]) _ rfl rfl (by simp)
set_option maxHeartbeats 2000000 in
set_option maxRecDepth 100000 in
theorem rbytes_12 (d s t mb mi ms md imm : Int) (w : World) (hd : Reg d) (hs : Reg s) :
    Calls Try.prog 39 #[.agg #[.int .i64 12, .int .i64 d, .int .i64 s, .int .i64 t, .int .i64 mb, .int .i64 mi, .int .i64 ms, .int .i64 md, .int .i64 imm]] w fun e w' => RetB w.heap.size ([rexI s 0 d, 49, bothI s d]) e w' ∧ Below w.heap.size w w' := by
  go_enter Try.func39, Try.ntmps39
  go_wp2
  refine still_tail 13 (by kernel_rfl) (by kernel_rfl) ?_
  simp only [List.take_succ_cons, List.take_zero, List.drop_succ_cons, List.drop_zero]
  repeat (first | still_step | still_call (rrex_same _ _ _ _ hs.m m0 hd.m) | still_call (rcs_12 _) | still_call (rboth_same _ _ _ hs hd))
  refine wpStill_nil ?_
  go_wp2
  go_ret
  exact lit1 w _ _ ([rexI s 0 d, 49, bothI s d]) _ rfl rfl (by simp)
set_option maxHeartbeats 2000000 in
set_option maxRecDepth 100000 in
theorem rbytes_13 (d s t mb mi ms md imm : Int) (w : World) (hd : Reg d) (hs : Reg s) :
    Calls Try.prog 39 #[.agg #[.int .i64 13, .int .i64 d, .int .i64 s, .int .i64 t, .int .i64 mb, .int .i64 mi, .int .i64 ms, .int .i64 md, .int .i64 imm]] w fun e w' => RetB w.heap.size ([rexI s 0 d, 57, bothI s d]) e w' ∧ Below w.heap.size w w' := by
  go_enter Try.func39, Try.ntmps39
  go_wp2
  refine still_tail 13 (by kernel_rfl) (by kernel_rfl) ?_
  simp only [List.take_succ_cons, List.take_zero, List.drop_succ_cons, List.drop_zero]
  repeat (first | still_step | still_call (rrex_same _ _ _ _ hs.m m0 hd.m) | still_call (rcs_13 _) | still_call (rboth_same _ _ _ hs hd))
  refine wpStill_nil ?_
  go_wp2
  go_ret
  exact lit1 w _ _ ([rexI s 0 d, 57, bothI s d]) _ rfl rfl (by simp)
set_option maxHeartbeats 2000000 in
set_option maxRecDepth 100000 in
theorem rbytes_14 (d s t mb mi ms md imm : Int) (w : World) (hd : Reg d) (hs : Reg s) :
    Calls Try.prog 39 #[.agg #[.int .i64 14, .int .i64 d, .int .i64 s, .int .i64 t, .int .i64 mb, .int .i64 mi, .int .i64 ms, .int .i64 md, .int .i64 imm]] w fun e w' => RetB w.heap.size ([rexI s 0 d, 133, bothI s d]) e w' ∧ Below w.heap.size w w' := by
  go_enter Try.func39, Try.ntmps39
  go_wp2
  refine still_tail 13 (by kernel_rfl) (by kernel_rfl) ?_
  simp only [List.take_succ_cons, List.take_zero, List.drop_succ_cons, List.drop_zero]
  repeat (first | still_step | still_call (rrex_same _ _ _ _ hs.m m0 hd.m) | still_call (rcs_14 _) | still_call (rboth_same _ _ _ hs hd))
  refine wpStill_nil ?_
  go_wp2
  go_ret
  exact lit1 w _ _ ([rexI s 0 d, 133, bothI s d]) _ rfl rfl (by simp)
set_option maxHeartbeats 2000000 in
set_option maxRecDepth 100000 in
theorem rbytes_20 (d s t mb mi ms md imm : Int) (w : World) (hd : Reg d) (hs : Reg s) :
    Calls Try.prog 39 #[.agg #[.int .i64 20, .int .i64 d, .int .i64 s, .int .i64 t, .int .i64 mb, .int .i64 mi, .int .i64 ms, .int .i64 md, .int .i64 imm]] w fun e w' => RetB w.heap.size ([102, rexI d 0 s, 15, 56, 246, bothI d s]) e w' ∧ Below w.heap.size w w' := by
  go_enter Try.func39, Try.ntmps39
  go_wp2
  refine still_tail 10 (by kernel_rfl) (by kernel_rfl) ?_
  simp only [List.take_succ_cons, List.take_zero, List.drop_succ_cons, List.drop_zero]
  repeat (first | still_step | still_call (rrex_same _ _ _ _ hd.m m0 hs.m) | still_call (rboth_same _ _ _ hd hs))
  refine wpStill_nil ?_
  go_wp2
  go_ret
  exact lit1 w _ _ ([102, rexI d 0 s, 15, 56, 246, bothI d s]) _ rfl rfl (by simp)
set_option maxHeartbeats 2000000 in
set_option maxRecDepth 100000 in
theorem rbytes_21 (d s t mb mi ms md imm : Int) (w : World) (hd : Reg d) (hs : Reg s) :
    Calls Try.prog 39 #[.agg #[.int .i64 21, .int .i64 d, .int .i64 s, .int .i64 t, .int .i64 mb, .int .i64 mi, .int .i64 ms, .int .i64 md, .int .i64 imm]] w fun e w' => RetB w.heap.size ([243, rexI d 0 s, 15, 56, 246, bothI d s]) e w' ∧ Below w.heap.size w w' := by
  go_enter Try.func39, Try.ntmps39
  go_wp2
  refine still_tail 10 (by kernel_rfl) (by kernel_rfl) ?_
  simp only [List.take_succ_cons, List.take_zero, List.drop_succ_cons, List.drop_zero]
  repeat (first | still_step | still_call (rrex_same _ _ _ _ hd.m m0 hs.m) | still_call (rboth_same _ _ _ hd hs))
  refine wpStill_nil ?_
  go_wp2
  go_ret
  exact lit1 w _ _ ([243, rexI d 0 s, 15, 56, 246, bothI d s]) _ rfl rfl (by simp)
set_option maxHeartbeats 2000000 in
set_option maxRecDepth 100000 in
theorem rbytes_26 (d s t mb mi ms md imm : Int) (w : World) (hd : Reg d) (hs : Reg s) :
    Calls Try.prog 39 #[.agg #[.int .i64 26, .int .i64 d, .int .i64 s, .int .i64 t, .int .i64 mb, .int .i64 mi, .int .i64 ms, .int .i64 md, .int .i64 imm]] w fun e w' => RetB w.heap.size ([rexI d 0 s, 15, 66, bothI d s]) e w' ∧ Below w.heap.size w w' := by
  go_enter Try.func39, Try.ntmps39
  go_wp2
  refine still_tail 10 (by kernel_rfl) (by kernel_rfl) ?_
  simp only [List.take_succ_cons, List.take_zero, List.drop_succ_cons, List.drop_zero]
  repeat (first | still_step | still_call (rrex_same _ _ _ _ hd.m m0 hs.m) | still_call (rboth_same _ _ _ hd hs))
  refine wpStill_nil ?_
  go_wp2
  go_ret
  exact lit1 w _ _ ([rexI d 0 s, 15, 66, bothI d s]) _ rfl rfl (by simp)
set_option maxHeartbeats 2000000 in
set_option maxRecDepth 100000 in
theorem rbytes_27 (d s t mb mi ms md imm : Int) (w : World) (hd : Reg d) (hs : Reg s) :
    Calls Try.prog 39 #[.agg #[.int .i64 27, .int .i64 d, .int .i64 s, .int .i64 t, .int .i64 mb, .int .i64 mi, .int .i64 ms, .int .i64 md, .int .i64 imm]] w fun e w' => RetB w.heap.size ([rexI d 0 s, 15, 69, bothI d s]) e w' ∧ Below w.heap.size w w' := by
  go_enter Try.func39, Try.ntmps39
  go_wp2
  refine still_tail 10 (by kernel_rfl) (by kernel_rfl) ?_
  simp only [List.take_succ_cons, List.take_zero, List.drop_succ_cons, List.drop_zero]
  repeat (first | still_step | still_call (rrex_same _ _ _ _ hd.m m0 hs.m) | still_call (rboth_same _ _ _ hd hs))
  refine wpStill_nil ?_
  go_wp2
  go_ret
  exact lit1 w _ _ ([rexI d 0 s, 15, 69, bothI d s]) _ rfl rfl (by simp)
set_option maxHeartbeats 2000000 in
set_option maxRecDepth 100000 in
theorem rbytes_22 (d s t mb mi ms md imm : Int) (w : World) (hd : Reg d) :
    Calls Try.prog 39 #[.agg #[.int .i64 22, .int .i64 d, .int .i64 s, .int .i64 t, .int .i64 mb, .int .i64 mi, .int .i64 ms, .int .i64 md, .int .i64 imm]] w fun e w' => RetB w.heap.size ([rexI 0 0 d, 247, bothI 3 d]) e w' ∧ Below w.heap.size w w' := by
  go_enter Try.func39, Try.ntmps39
  go_wp2
  refine still_tail 6 (by kernel_rfl) (by kernel_rfl) ?_
  simp only [List.take_succ_cons, List.take_zero, List.drop_succ_cons, List.drop_zero]
  repeat (first | still_step | still_call (rrex_same _ _ _ _ m0 m0 hd.m) | still_call (rboth_same _ _ _ (by omega) hd))
  refine wpStill_nil ?_
  go_wp2
  go_ret
  exact lit1 w _ _ ([rexI 0 0 d, 247, bothI 3 d]) _ rfl rfl (by simp)
set_option maxHeartbeats 2000000 in
set_option maxRecDepth 100000 in
theorem rbytes_23 (d s t mb mi ms md imm : Int) (w : World) (hd : Reg d) :
    Calls Try.prog 39 #[.agg #[.int .i64 23, .int .i64 d, .int .i64 s, .int .i64 t, .int .i64 mb, .int .i64 mi, .int .i64 ms, .int .i64 md, .int .i64 imm]] w fun e w' => RetB w.heap.size ([rexI 0 0 d, 247, bothI 2 d]) e w' ∧ Below w.heap.size w w' := by
  go_enter Try.func39, Try.ntmps39
  go_wp2
  refine still_tail 6 (by kernel_rfl) (by kernel_rfl) ?_
  simp only [List.take_succ_cons, List.take_zero, List.drop_succ_cons, List.drop_zero]
  repeat (first | still_step | still_call (rrex_same _ _ _ _ m0 m0 hd.m) | still_call (rboth_same _ _ _ (by omega) hd))
  refine wpStill_nil ?_
  go_wp2
  go_ret
  exact lit1 w _ _ ([rexI 0 0 d, 247, bothI 2 d]) _ rfl rfl (by simp)
set_option maxHeartbeats 2000000 in
set_option maxRecDepth 100000 in
theorem rbytes_24 (d s t mb mi ms md imm : Int) (w : World) (hd : Reg d) (hi : 1 ≤ imm ∧ imm ≤ 63) :
    Calls Try.prog 39 #[.agg #[.int .i64 24, .int .i64 d, .int .i64 s, .int .i64 t, .int .i64 mb, .int .i64 mi, .int .i64 ms, .int .i64 md, .int .i64 imm]] w fun e w' => RetB w.heap.size ([rexI 0 0 d, 193, bothI 4 d, imm]) e w' ∧ Below w.heap.size w w' := by
  have hiw := imm_byte imm (by omega)
  go_enter Try.func39, Try.ntmps39
  go_wp2
  refine still_tail 9 (by kernel_rfl) (by kernel_rfl) ?_
  simp only [List.take_succ_cons, List.take_zero, List.drop_succ_cons, List.drop_zero]
  repeat (first | still_step | still_call (rrex_same _ _ _ _ m0 m0 hd.m) | still_call (rboth_same _ _ _ (by omega) hd))
  refine wpStill_nil ?_
  go_wp2
  go_ret
  exact lit1 w _ _ ([rexI 0 0 d, 193, bothI 4 d, imm]) _ rfl rfl (by simp)
set_option maxHeartbeats 2000000 in
set_option maxRecDepth 100000 in
theorem rbytes_25 (d s t mb mi ms md imm : Int) (w : World) (hd : Reg d) (hi : 1 ≤ imm ∧ imm ≤ 63) :
    Calls Try.prog 39 #[.agg #[.int .i64 25, .int .i64 d, .int .i64 s, .int .i64 t, .int .i64 mb, .int .i64 mi, .int .i64 ms, .int .i64 md, .int .i64 imm]] w fun e w' => RetB w.heap.size ([rexI 0 0 d, 193, bothI 5 d, imm]) e w' ∧ Below w.heap.size w w' := by
  have hiw := imm_byte imm (by omega)
  go_enter Try.func39, Try.ntmps39
  go_wp2
  refine still_tail 9 (by kernel_rfl) (by kernel_rfl) ?_
  simp only [List.take_succ_cons, List.take_zero, List.drop_succ_cons, List.drop_zero]
  repeat (first | still_step | still_call (rrex_same _ _ _ _ m0 m0 hd.m) | still_call (rboth_same _ _ _ (by omega) hd))
  refine wpStill_nil ?_
  go_wp2
  go_ret
  exact lit1 w _ _ ([rexI 0 0 d, 193, bothI 5 d, imm]) _ rfl rfl (by simp)
set_option maxHeartbeats 2000000 in
set_option maxRecDepth 100000 in
theorem rbytes_19 (d s t mb mi ms md imm : Int) (w : World) (hd : Reg d) (hs : Reg s) (ht : Reg t) :
    Calls Try.prog 39 #[.agg #[.int .i64 19, .int .i64 d, .int .i64 s, .int .i64 t, .int .i64 mb, .int .i64 mi, .int .i64 ms, .int .i64 md, .int .i64 imm]] w fun e w' => RetB w.heap.size ([196, mulx1 d t, mulx2 s, 246, bothI d t]) e w' ∧ Below w.heap.size w w' := by
  go_enter Try.func39, Try.ntmps39
  go_wp2
  refine still_tail 23 (by kernel_rfl) (by kernel_rfl) ?_
  simp only [List.take_succ_cons, List.take_zero, List.drop_succ_cons, List.drop_zero]
  repeat (first | still_step | still_call (rhigh_same _ _ hd.m) | still_call (rhigh_same _ _ ht.m) | still_call (rboth_same _ _ _ hd ht))
  refine wpStill_nil ?_
  go_wp2
  go_ret
  rw [mx1_form, mx2_form _ hs]
  exact lit1 w _ _ ([196, mulx1 d t, mulx2 s, 246, bothI d t]) _ rfl rfl (by simp)
set_option maxHeartbeats 2000000 in
set_option maxRecDepth 100000 in
theorem rbytes_28h (d s t mb mi ms md imm : Int) (w : World) (hr : 0 ≤ s ∧ s ≤ 15) (h7 : 7 < s) :
    Calls Try.prog 39 #[.agg #[.int .i64 28, .int .i64 d, .int .i64 s, .int .i64 t, .int .i64 mb, .int .i64 mi, .int .i64 ms, .int .i64 md, .int .i64 imm]] w fun e w' => RetB w.heap.size ([65, 80 + s % 8]) e w' ∧ Below w.heap.size w w' := by
  have h8 : decide (7 < s) = true := by simpa using h7
  go_enter Try.func39, Try.ntmps39
  go_wp2
  go_ret
  exact lit1' w _ _ ([65, 80 + s % 8]) _ rfl rfl (by simp)
set_option maxHeartbeats 2000000 in
set_option maxRecDepth 100000 in
theorem rbytes_28l (d s t mb mi ms md imm : Int) (w : World) (hr : 0 ≤ s ∧ s ≤ 15) (h7 : ¬ 7 < s) :
    Calls Try.prog 39 #[.agg #[.int .i64 28, .int .i64 d, .int .i64 s, .int .i64 t, .int .i64 mb, .int .i64 mi, .int .i64 ms, .int .i64 md, .int .i64 imm]] w fun e w' => RetB w.heap.size ([80 + s]) e w' ∧ Below w.heap.size w w' := by
  have h8 : decide (7 < s) = false := by simpa using h7
  go_enter Try.func39, Try.ntmps39
  go_wp2
  go_ret
  exact lit1' w _ _ ([80 + s]) _ rfl rfl (by simp)
theorem rbytes_28 (d s t mb mi ms md imm : Int) (w : World) (hr : Reg s) :
    Calls Try.prog 39 #[.agg #[.int .i64 28, .int .i64 d, .int .i64 s, .int .i64 t, .int .i64 mb, .int .i64 mi, .int .i64 ms, .int .i64 md, .int .i64 imm]] w fun e w' => RetB w.heap.size (stackL 80 s) e w' ∧ Below w.heap.size w w' := by
  have hr' : 0 ≤ s ∧ s ≤ 15 := hr
  by_cases h : 7 < s
  · have e : stackL 80 s = [65, 80 + s % 8] := by rw [stackL_hi _ _ (by omega), lo_u8]
    rw [e]; exact rbytes_28h d s t mb mi ms md imm w hr' h
  · have e : stackL 80 s = [80 + s] := by rw [stackL_lo _ _ (by omega) (by omega)]
    rw [e]; exact rbytes_28l d s t mb mi ms md imm w hr' h
set_option maxHeartbeats 2000000 in
set_option maxRecDepth 100000 in
theorem rbytes_29h (d s t mb mi ms md imm : Int) (w : World) (hr : 0 ≤ d ∧ d ≤ 15) (h7 : 7 < d) :
    Calls Try.prog 39 #[.agg #[.int .i64 29, .int .i64 d, .int .i64 s, .int .i64 t, .int .i64 mb, .int .i64 mi, .int .i64 ms, .int .i64 md, .int .i64 imm]] w fun e w' => RetB w.heap.size ([65, 88 + d % 8]) e w' ∧ Below w.heap.size w w' := by
  have h8 : decide (7 < d) = true := by simpa using h7
  go_enter Try.func39, Try.ntmps39
  go_wp2
  go_ret
  exact lit1' w _ _ ([65, 88 + d % 8]) _ rfl rfl (by simp)
set_option maxHeartbeats 2000000 in
set_option maxRecDepth 100000 in
theorem rbytes_29l (d s t mb mi ms md imm : Int) (w : World) (hr : 0 ≤ d ∧ d ≤ 15) (h7 : ¬ 7 < d) :
    Calls Try.prog 39 #[.agg #[.int .i64 29, .int .i64 d, .int .i64 s, .int .i64 t, .int .i64 mb, .int .i64 mi, .int .i64 ms, .int .i64 md, .int .i64 imm]] w fun e w' => RetB w.heap.size ([88 + d]) e w' ∧ Below w.heap.size w w' := by
  have h8 : decide (7 < d) = false := by simpa using h7
  go_enter Try.func39, Try.ntmps39
  go_wp2
  go_ret
  exact lit1' w _ _ ([88 + d]) _ rfl rfl (by simp)
theorem rbytes_29 (d s t mb mi ms md imm : Int) (w : World) (hr : Reg d) :
    Calls Try.prog 39 #[.agg #[.int .i64 29, .int .i64 d, .int .i64 s, .int .i64 t, .int .i64 mb, .int .i64 mi, .int .i64 ms, .int .i64 md, .int .i64 imm]] w fun e w' => RetB w.heap.size (stackL 88 d) e w' ∧ Below w.heap.size w w' := by
  have hr' : 0 ≤ d ∧ d ≤ 15 := hr
  by_cases h : 7 < d
  · have e : stackL 88 d = [65, 88 + d % 8] := by rw [stackL_hi _ _ (by omega), lo_u8]
    rw [e]; exact rbytes_29h d s t mb mi ms md imm w hr' h
  · have e : stackL 88 d = [88 + d] := by rw [stackL_lo _ _ (by omega) (by omega)]
    rw [e]; exact rbytes_29l d s t mb mi ms md imm w hr' h
set_option maxHeartbeats 2000000 in
set_option maxRecDepth 100000 in
theorem rbytes_33 (d s t mb mi ms md imm : Int) (w : World)  :
    Calls Try.prog 39 #[.agg #[.int .i64 33, .int .i64 d, .int .i64 s, .int .i64 t, .int .i64 mb, .int .i64 mi, .int .i64 ms, .int .i64 md, .int .i64 imm]] w fun e w' => RetB w.heap.size ([195]) e w' ∧ Below w.heap.size w w' := by
  go_enter Try.func39, Try.ntmps39
  go_wp2
  go_ret
  exact lit1' w _ _ [195] _ rfl rfl (by simp)
set_option maxHeartbeats 2000000 in
set_option maxRecDepth 100000 in
theorem rbytes_30 (d s t mb mi ms md imm : Int) (w : World) (hi : -9223372036854775808 ≤ imm ∧ imm ≤ 9223372036854775807) :
    Calls Try.prog 39 #[.agg #[.int .i64 30, .int .i64 d, .int .i64 s, .int .i64 t, .int .i64 mb, .int .i64 mi, .int .i64 ms, .int .i64 md, .int .i64 imm]] w fun e w' => RetB w.heap.size ([233] ++ littleL imm 4) e w' ∧ Below w.heap.size w w' := by
  go_enter Try.func39, Try.ntmps39
  go_wp2_with fail
  go_at_call 62
  refine (rlittle_4 imm _ hi).mono ?_
  rintro e w1 ⟨⟨y, rfl, hy⟩, hb1⟩
  obtain ⟨hL, hB0⟩ := lit1' w (Obj.cells #[.int .i64 30, .int .i64 d, .int .i64 s, .int .i64 t, .int .i64 mb, .int .i64 mi, .int .i64 ms, .int .i64 md, .int .i64 imm] 25) #[.int .u8 233] [233] 1 rfl rfl (by simp)
  obtain ⟨v0, hv0, hL0⟩ := hL
  cases hv0
  have hL1 := hL0.later hb1
  have hB : Below w.heap.size w w1 := hB0.trans (hb1.mono (by simp only [World.size_alloc]; omega))
  have hz2 := hB.size
  have hle : w.heap.size ≤ ((w.alloc (Obj.cells #[.int .i64 30, .int .i64 d, .int .i64 s, .int .i64 t, .int .i64 mb, .int .i64 mi, .int .i64 ms, .int .i64 md, .int .i64 imm] 25)).alloc (.cells #[.int .u8 233] 5)).heap.size := by simp only [World.size_alloc]; omega
  have hy1 := hy.mono hle
  clear hL0 hb1 hB0 hy hle
  go_wp2_with (at_builtin; refine wpList_appB (xs := [233]) (bs := littleL imm 4) (B := w.heap.size) rfl _ _ rfl rfl rfl hL1 hy1 hz2 (by rw [littleL_length]; simp) ?_; intro v' w' hB' hb')
  go_ret
  exact ⟨⟨_, rfl, hB'⟩, hB.trans hb'⟩
set_option maxHeartbeats 2000000 in
set_option maxRecDepth 100000 in
theorem rbytes_31 (d s t mb mi ms md imm : Int) (w : World) (hi : -9223372036854775808 ≤ imm ∧ imm ≤ 9223372036854775807) :
    Calls Try.prog 39 #[.agg #[.int .i64 31, .int .i64 d, .int .i64 s, .int .i64 t, .int .i64 mb, .int .i64 mi, .int .i64 ms, .int .i64 md, .int .i64 imm]] w fun e w' => RetB w.heap.size ([15, 133] ++ littleL imm 4) e w' ∧ Below w.heap.size w w' := by
  go_enter Try.func39, Try.ntmps39
  go_wp2_with fail
  go_at_call 62
  refine (rlittle_4 imm _ hi).mono ?_
  rintro e w1 ⟨⟨y, rfl, hy⟩, hb1⟩
  obtain ⟨hL, hB0⟩ := lit1' w (Obj.cells #[.int .i64 31, .int .i64 d, .int .i64 s, .int .i64 t, .int .i64 mb, .int .i64 mi, .int .i64 ms, .int .i64 md, .int .i64 imm] 25) #[.int .u8 15, .int .u8 133] [15, 133] 2 rfl rfl (by simp)
  obtain ⟨v0, hv0, hL0⟩ := hL
  cases hv0
  have hL1 := hL0.later hb1
  have hB : Below w.heap.size w w1 := hB0.trans (hb1.mono (by simp only [World.size_alloc]; omega))
  have hz2 := hB.size
  have hle : w.heap.size ≤ ((w.alloc (Obj.cells #[.int .i64 31, .int .i64 d, .int .i64 s, .int .i64 t, .int .i64 mb, .int .i64 mi, .int .i64 ms, .int .i64 md, .int .i64 imm] 25)).alloc (.cells #[.int .u8 15, .int .u8 133] 5)).heap.size := by simp only [World.size_alloc]; omega
  have hy1 := hy.mono hle
  clear hL0 hb1 hB0 hy hle
  go_wp2_with (at_builtin; refine wpList_appB (xs := [15, 133]) (bs := littleL imm 4) (B := w.heap.size) rfl _ _ rfl rfl rfl hL1 hy1 hz2 (by rw [littleL_length]; simp) ?_; intro v' w' hB' hb')
  go_ret
  exact ⟨⟨_, rfl, hB'⟩, hB.trans hb'⟩
set_option maxHeartbeats 2000000 in
set_option maxRecDepth 100000 in
theorem rbytes_32 (d s t mb mi ms md imm : Int) (w : World) (hi : -9223372036854775808 ≤ imm ∧ imm ≤ 9223372036854775807) :
    Calls Try.prog 39 #[.agg #[.int .i64 32, .int .i64 d, .int .i64 s, .int .i64 t, .int .i64 mb, .int .i64 mi, .int .i64 ms, .int .i64 md, .int .i64 imm]] w fun e w' => RetB w.heap.size ([15, 130] ++ littleL imm 4) e w' ∧ Below w.heap.size w w' := by
  go_enter Try.func39, Try.ntmps39
  go_wp2_with fail
  go_at_call 62
  refine (rlittle_4 imm _ hi).mono ?_
  rintro e w1 ⟨⟨y, rfl, hy⟩, hb1⟩
  obtain ⟨hL, hB0⟩ := lit1' w (Obj.cells #[.int .i64 32, .int .i64 d, .int .i64 s, .int .i64 t, .int .i64 mb, .int .i64 mi, .int .i64 ms, .int .i64 md, .int .i64 imm] 25) #[.int .u8 15, .int .u8 130] [15, 130] 2 rfl rfl (by simp)
  obtain ⟨v0, hv0, hL0⟩ := hL
  cases hv0
  have hL1 := hL0.later hb1
  have hB : Below w.heap.size w w1 := hB0.trans (hb1.mono (by simp only [World.size_alloc]; omega))
  have hz2 := hB.size
  have hle : w.heap.size ≤ ((w.alloc (Obj.cells #[.int .i64 32, .int .i64 d, .int .i64 s, .int .i64 t, .int .i64 mb, .int .i64 mi, .int .i64 ms, .int .i64 md, .int .i64 imm] 25)).alloc (.cells #[.int .u8 15, .int .u8 130] 5)).heap.size := by simp only [World.size_alloc]; omega
  have hy1 := hy.mono hle
  clear hL0 hb1 hB0 hy hle
  go_wp2_with (at_builtin; refine wpList_appB (xs := [15, 130]) (bs := littleL imm 4) (B := w.heap.size) rfl _ _ rfl rfl rfl hL1 hy1 hz2 (by rw [littleL_length]; simp) ?_; intro v' w' hB' hb')
  go_ret
  exact ⟨⟨_, rfl, hB'⟩, hB.trans hb'⟩
end Go.Proofs.Ytakmpnmmcjnecaa
