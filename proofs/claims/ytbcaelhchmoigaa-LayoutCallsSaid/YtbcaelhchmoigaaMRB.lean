import Derived.Test.YtbcaelhchmoigaaMRA
set_option maxHeartbeats 4000000
set_option maxRecDepth 100000
set_option linter.unusedVariables false
set_option linter.unusedSimpArgs false
namespace Go.Proofs.Ytbcaelhchmoigaa
open Go.RowKit Calm
theorem lit1 (w : World) (A : Obj) (cs : Array Value) (bs : List Int) (n : Nat) (hn : n = bs.length) (hcs : cs.toList = bs.map (Value.int .u8)) (hl : bs.length ≤ 1000) :
    RetB w.heap.size bs (.returned (.slice (some ⟨w.heap.size + 1, 0, none⟩) n n)) ((w.alloc A).alloc (.cells cs 5)).drew ∧ Below w.heap.size w ((w.alloc A).alloc (.cells cs 5)).drew := by
  refine ⟨⟨_, rfl, ?_⟩, below_dr (bal (bal (Below.refl _ _) _) _)⟩
  have := IsB.lit (w.alloc A) w.heap.size bs n hn cs hcs (by simp) hl
  rw [World.size_alloc] at this
  exact this
theorem lit1' (w : World) (A : Obj) (cs : Array Value) (bs : List Int) (n : Nat) (hn : n = bs.length) (hcs : cs.toList = bs.map (Value.int .u8)) (hl : bs.length ≤ 1000) :
    RetB w.heap.size bs (.returned (.slice (some ⟨w.heap.size + 1, 0, none⟩) n n)) ((w.alloc A).alloc (.cells cs 5)) ∧ Below w.heap.size w ((w.alloc A).alloc (.cells cs 5)) := by
  refine ⟨⟨_, rfl, ?_⟩, (bal (bal (Below.refl _ _) _) _)⟩
  have := IsB.lit (w.alloc A) w.heap.size bs n hn cs hcs (by simp) hl
  rw [World.size_alloc] at this
  exact this
theorem rrex_same (a b c : Int) (w : World) (h1 : -1 ≤ a ∧ a ≤ 15) (h2 : -1 ≤ b ∧ b ≤ 15) (h3 : -1 ≤ c ∧ c ≤ 15) : Calls Try.prog 76 #[.int .i64 a, .int .i64 b, .int .i64 c] w fun e w' => e = .returned (.int .u8 (rexI a b c)) ∧ w' = w :=
  (rrex_any a b c w h1 h2 h3).mono fun _ _ ⟨x, y⟩ => ⟨x, y.symm⟩
theorem rboth_same (a b : Int) (w : World) (h1 : 0 ≤ a ∧ a ≤ 15) (h2 : 0 ≤ b ∧ b ≤ 15) : Calls Try.prog 79 #[.int .i64 a, .int .i64 b] w fun e w' => e = .returned (.int .u8 (bothI a b)) ∧ w' = w :=
  (rboth_any a b w h1 h2).mono fun _ _ ⟨x, y⟩ => ⟨x, y.symm⟩
theorem rhigh_same (r : Int) (w : World) (h : -1 ≤ r ∧ r ≤ 15) : Calls Try.prog 80 #[.int .i64 r] w fun e w' => e = .returned (.int .u8 (hiR r)) ∧ w' = w :=
  (rhigh_any r w h).mono fun _ _ ⟨x, y⟩ => ⟨x, y.symm⟩
theorem mx1_form (d t : Int) : ((66 + 128 * ((1 - hiR d) % 256) % 256) % 256 + 32 * ((1 - hiR t) % 256) % 256) % 256 = mulx1 d t := by
  unfold mulx1
  rcases hiR_01 d with h1 | h1 <;> rcases hiR_01 t with h2 | h2 <;> rw [h1, h2] <;> decide +kernel
theorem mx2_form (s : Int) (h : 0 ≤ s ∧ s ≤ 15) : (131 + 8 * (wrap64 (15 - s) % 256) % 256) % 256 = mulx2 s := by
  unfold mulx2 wrap64; omega
theorem rcs_1 (w : World) : Calls Try.prog 81 #[.int .i64 1] w fun e w' => e = .returned (.int .u8 137) ∧ w' = w := (rcode_1 w).mono fun _ _ ⟨x, y⟩ => ⟨x, y.symm⟩
theorem rcs_6 (w : World) : Calls Try.prog 81 #[.int .i64 6] w fun e w' => e = .returned (.int .u8 1) ∧ w' = w := (rcode_6 w).mono fun _ _ ⟨x, y⟩ => ⟨x, y.symm⟩
theorem rcs_7 (w : World) : Calls Try.prog 81 #[.int .i64 7] w fun e w' => e = .returned (.int .u8 17) ∧ w' = w := (rcode_7 w).mono fun _ _ ⟨x, y⟩ => ⟨x, y.symm⟩
theorem rcs_8 (w : World) : Calls Try.prog 81 #[.int .i64 8] w fun e w' => e = .returned (.int .u8 41) ∧ w' = w := (rcode_8 w).mono fun _ _ ⟨x, y⟩ => ⟨x, y.symm⟩
theorem rcs_9 (w : World) : Calls Try.prog 81 #[.int .i64 9] w fun e w' => e = .returned (.int .u8 25) ∧ w' = w := (rcode_9 w).mono fun _ _ ⟨x, y⟩ => ⟨x, y.symm⟩
theorem rcs_10 (w : World) : Calls Try.prog 81 #[.int .i64 10] w fun e w' => e = .returned (.int .u8 33) ∧ w' = w := (rcode_10 w).mono fun _ _ ⟨x, y⟩ => ⟨x, y.symm⟩
theorem rcs_11 (w : World) : Calls Try.prog 81 #[.int .i64 11] w fun e w' => e = .returned (.int .u8 9) ∧ w' = w := (rcode_11 w).mono fun _ _ ⟨x, y⟩ => ⟨x, y.symm⟩
theorem rcs_12 (w : World) : Calls Try.prog 81 #[.int .i64 12] w fun e w' => e = .returned (.int .u8 49) ∧ w' = w := (rcode_12 w).mono fun _ _ ⟨x, y⟩ => ⟨x, y.symm⟩
theorem rcs_13 (w : World) : Calls Try.prog 81 #[.int .i64 13] w fun e w' => e = .returned (.int .u8 57) ∧ w' = w := (rcode_13 w).mono fun _ _ ⟨x, y⟩ => ⟨x, y.symm⟩
theorem rcs_14 (w : World) : Calls Try.prog 81 #[.int .i64 14] w fun e w' => e = .returned (.int .u8 133) ∧ w' = w := (rcode_14 w).mono fun _ _ ⟨x, y⟩ => ⟨x, y.symm⟩
theorem stackL_hi (c r : Int) (h : 8 ≤ r) : stackL c r = [65, c + loR r] := by unfold stackL hiR; rw [if_pos (by rw [if_pos h])]
theorem stackL_lo (c r : Int) (h : r < 8) (h0 : 0 ≤ r) : stackL c r = [c + r] := by
  have e : loR r = r := by unfold loR; omega
  unfold stackL hiR; rw [if_neg (by rw [if_neg (by omega)]; decide), e]
attribute [local irreducible] loR hiR rexI bothI
theorem rbytes_1 (d s t mb mi ms md imm : Int) (w : World) (hd : Reg d) (hs : Reg s) :
    Calls Try.prog 47 #[.agg #[.int .i64 1, .int .i64 d, .int .i64 s, .int .i64 t, .int .i64 mb, .int .i64 mi, .int .i64 ms, .int .i64 md, .int .i64 imm]] w fun e w' => RetB w.heap.size ([rexI s 0 d, 137, bothI s d]) e w' ∧ Below w.heap.size w w' := by
  go_enter Try.func47, Try.ntmps47
  go_wp2
  refine still_tail 13 (by kernel_rfl) (by kernel_rfl) ?_
  simp only [List.take_succ_cons, List.take_zero, List.drop_succ_cons, List.drop_zero]
  repeat (first | still_step | still_call (rrex_same _ _ _ _ hs.m m0 hd.m) | still_call (rcs_1 _) | still_call (rboth_same _ _ _ hs hd))
  refine wpStill_nil ?_
  go_wp2
  go_ret
  exact lit1 w _ _ ([rexI s 0 d, 137, bothI s d]) _ rfl rfl (by simp)
theorem rbytes_6 (d s t mb mi ms md imm : Int) (w : World) (hd : Reg d) (hs : Reg s) :
    Calls Try.prog 47 #[.agg #[.int .i64 6, .int .i64 d, .int .i64 s, .int .i64 t, .int .i64 mb, .int .i64 mi, .int .i64 ms, .int .i64 md, .int .i64 imm]] w fun e w' => RetB w.heap.size ([rexI s 0 d, 1, bothI s d]) e w' ∧ Below w.heap.size w w' := by
  go_enter Try.func47, Try.ntmps47
  go_wp2
  refine still_tail 13 (by kernel_rfl) (by kernel_rfl) ?_
  simp only [List.take_succ_cons, List.take_zero, List.drop_succ_cons, List.drop_zero]
  repeat (first | still_step | still_call (rrex_same _ _ _ _ hs.m m0 hd.m) | still_call (rcs_6 _) | still_call (rboth_same _ _ _ hs hd))
  refine wpStill_nil ?_
  go_wp2
  go_ret
  exact lit1 w _ _ ([rexI s 0 d, 1, bothI s d]) _ rfl rfl (by simp)
theorem rbytes_7 (d s t mb mi ms md imm : Int) (w : World) (hd : Reg d) (hs : Reg s) :
    Calls Try.prog 47 #[.agg #[.int .i64 7, .int .i64 d, .int .i64 s, .int .i64 t, .int .i64 mb, .int .i64 mi, .int .i64 ms, .int .i64 md, .int .i64 imm]] w fun e w' => RetB w.heap.size ([rexI s 0 d, 17, bothI s d]) e w' ∧ Below w.heap.size w w' := by
  go_enter Try.func47, Try.ntmps47
  go_wp2
  refine still_tail 13 (by kernel_rfl) (by kernel_rfl) ?_
  simp only [List.take_succ_cons, List.take_zero, List.drop_succ_cons, List.drop_zero]
  repeat (first | still_step | still_call (rrex_same _ _ _ _ hs.m m0 hd.m) | still_call (rcs_7 _) | still_call (rboth_same _ _ _ hs hd))
  refine wpStill_nil ?_
  go_wp2
  go_ret
  exact lit1 w _ _ ([rexI s 0 d, 17, bothI s d]) _ rfl rfl (by simp)
theorem rbytes_8 (d s t mb mi ms md imm : Int) (w : World) (hd : Reg d) (hs : Reg s) :
    Calls Try.prog 47 #[.agg #[.int .i64 8, .int .i64 d, .int .i64 s, .int .i64 t, .int .i64 mb, .int .i64 mi, .int .i64 ms, .int .i64 md, .int .i64 imm]] w fun e w' => RetB w.heap.size ([rexI s 0 d, 41, bothI s d]) e w' ∧ Below w.heap.size w w' := by
  go_enter Try.func47, Try.ntmps47
  go_wp2
  refine still_tail 13 (by kernel_rfl) (by kernel_rfl) ?_
  simp only [List.take_succ_cons, List.take_zero, List.drop_succ_cons, List.drop_zero]
  repeat (first | still_step | still_call (rrex_same _ _ _ _ hs.m m0 hd.m) | still_call (rcs_8 _) | still_call (rboth_same _ _ _ hs hd))
  refine wpStill_nil ?_
  go_wp2
  go_ret
  exact lit1 w _ _ ([rexI s 0 d, 41, bothI s d]) _ rfl rfl (by simp)
theorem rbytes_9 (d s t mb mi ms md imm : Int) (w : World) (hd : Reg d) (hs : Reg s) :
    Calls Try.prog 47 #[.agg #[.int .i64 9, .int .i64 d, .int .i64 s, .int .i64 t, .int .i64 mb, .int .i64 mi, .int .i64 ms, .int .i64 md, .int .i64 imm]] w fun e w' => RetB w.heap.size ([rexI s 0 d, 25, bothI s d]) e w' ∧ Below w.heap.size w w' := by
  go_enter Try.func47, Try.ntmps47
  go_wp2
  refine still_tail 13 (by kernel_rfl) (by kernel_rfl) ?_
  simp only [List.take_succ_cons, List.take_zero, List.drop_succ_cons, List.drop_zero]
  repeat (first | still_step | still_call (rrex_same _ _ _ _ hs.m m0 hd.m) | still_call (rcs_9 _) | still_call (rboth_same _ _ _ hs hd))
  refine wpStill_nil ?_
  go_wp2
  go_ret
  exact lit1 w _ _ ([rexI s 0 d, 25, bothI s d]) _ rfl rfl (by simp)
theorem rbytes_10 (d s t mb mi ms md imm : Int) (w : World) (hd : Reg d) (hs : Reg s) :
    Calls Try.prog 47 #[.agg #[.int .i64 10, .int .i64 d, .int .i64 s, .int .i64 t, .int .i64 mb, .int .i64 mi, .int .i64 ms, .int .i64 md, .int .i64 imm]] w fun e w' => RetB w.heap.size ([rexI s 0 d, 33, bothI s d]) e w' ∧ Below w.heap.size w w' := by
  go_enter Try.func47, Try.ntmps47
  go_wp2
  refine still_tail 13 (by kernel_rfl) (by kernel_rfl) ?_
  simp only [List.take_succ_cons, List.take_zero, List.drop_succ_cons, List.drop_zero]
  repeat (first | still_step | still_call (rrex_same _ _ _ _ hs.m m0 hd.m) | still_call (rcs_10 _) | still_call (rboth_same _ _ _ hs hd))
  refine wpStill_nil ?_
  go_wp2
  go_ret
  exact lit1 w _ _ ([rexI s 0 d, 33, bothI s d]) _ rfl rfl (by simp)
theorem rbytes_11 (d s t mb mi ms md imm : Int) (w : World) (hd : Reg d) (hs : Reg s) :
    Calls Try.prog 47 #[.agg #[.int .i64 11, .int .i64 d, .int .i64 s, .int .i64 t, .int .i64 mb, .int .i64 mi, .int .i64 ms, .int .i64 md, .int .i64 imm]] w fun e w' => RetB w.heap.size ([rexI s 0 d, 9, bothI s d]) e w' ∧ Below w.heap.size w w' := by
  go_enter Try.func47, Try.ntmps47
  go_wp2
  refine still_tail 13 (by kernel_rfl) (by kernel_rfl) ?_
  simp only [List.take_succ_cons, List.take_zero, List.drop_succ_cons, List.drop_zero]
  repeat (first | still_step | still_call (rrex_same _ _ _ _ hs.m m0 hd.m) | still_call (rcs_11 _) | still_call (rboth_same _ _ _ hs hd))
  refine wpStill_nil ?_
  go_wp2
  go_ret
  exact lit1 w _ _ ([rexI s 0 d, 9, bothI s d]) _ rfl rfl (by simp)
theorem rbytes_12 (d s t mb mi ms md imm : Int) (w : World) (hd : Reg d) (hs : Reg s) :
    Calls Try.prog 47 #[.agg #[.int .i64 12, .int .i64 d, .int .i64 s, .int .i64 t, .int .i64 mb, .int .i64 mi, .int .i64 ms, .int .i64 md, .int .i64 imm]] w fun e w' => RetB w.heap.size ([rexI s 0 d, 49, bothI s d]) e w' ∧ Below w.heap.size w w' := by
  go_enter Try.func47, Try.ntmps47
  go_wp2
  refine still_tail 13 (by kernel_rfl) (by kernel_rfl) ?_
  simp only [List.take_succ_cons, List.take_zero, List.drop_succ_cons, List.drop_zero]
  repeat (first | still_step | still_call (rrex_same _ _ _ _ hs.m m0 hd.m) | still_call (rcs_12 _) | still_call (rboth_same _ _ _ hs hd))
  refine wpStill_nil ?_
  go_wp2
  go_ret
  exact lit1 w _ _ ([rexI s 0 d, 49, bothI s d]) _ rfl rfl (by simp)
theorem rbytes_13 (d s t mb mi ms md imm : Int) (w : World) (hd : Reg d) (hs : Reg s) :
    Calls Try.prog 47 #[.agg #[.int .i64 13, .int .i64 d, .int .i64 s, .int .i64 t, .int .i64 mb, .int .i64 mi, .int .i64 ms, .int .i64 md, .int .i64 imm]] w fun e w' => RetB w.heap.size ([rexI s 0 d, 57, bothI s d]) e w' ∧ Below w.heap.size w w' := by
  go_enter Try.func47, Try.ntmps47
  go_wp2
  refine still_tail 13 (by kernel_rfl) (by kernel_rfl) ?_
  simp only [List.take_succ_cons, List.take_zero, List.drop_succ_cons, List.drop_zero]
  repeat (first | still_step | still_call (rrex_same _ _ _ _ hs.m m0 hd.m) | still_call (rcs_13 _) | still_call (rboth_same _ _ _ hs hd))
  refine wpStill_nil ?_
  go_wp2
  go_ret
  exact lit1 w _ _ ([rexI s 0 d, 57, bothI s d]) _ rfl rfl (by simp)
theorem rbytes_14 (d s t mb mi ms md imm : Int) (w : World) (hd : Reg d) (hs : Reg s) :
    Calls Try.prog 47 #[.agg #[.int .i64 14, .int .i64 d, .int .i64 s, .int .i64 t, .int .i64 mb, .int .i64 mi, .int .i64 ms, .int .i64 md, .int .i64 imm]] w fun e w' => RetB w.heap.size ([rexI s 0 d, 133, bothI s d]) e w' ∧ Below w.heap.size w w' := by
  go_enter Try.func47, Try.ntmps47
  go_wp2
  refine still_tail 13 (by kernel_rfl) (by kernel_rfl) ?_
  simp only [List.take_succ_cons, List.take_zero, List.drop_succ_cons, List.drop_zero]
  repeat (first | still_step | still_call (rrex_same _ _ _ _ hs.m m0 hd.m) | still_call (rcs_14 _) | still_call (rboth_same _ _ _ hs hd))
  refine wpStill_nil ?_
  go_wp2
  go_ret
  exact lit1 w _ _ ([rexI s 0 d, 133, bothI s d]) _ rfl rfl (by simp)
theorem rbytes_20 (d s t mb mi ms md imm : Int) (w : World) (hd : Reg d) (hs : Reg s) :
    Calls Try.prog 47 #[.agg #[.int .i64 20, .int .i64 d, .int .i64 s, .int .i64 t, .int .i64 mb, .int .i64 mi, .int .i64 ms, .int .i64 md, .int .i64 imm]] w fun e w' => RetB w.heap.size ([102, rexI d 0 s, 15, 56, 246, bothI d s]) e w' ∧ Below w.heap.size w w' := by
  go_enter Try.func47, Try.ntmps47
  go_wp2
  refine still_tail 10 (by kernel_rfl) (by kernel_rfl) ?_
  simp only [List.take_succ_cons, List.take_zero, List.drop_succ_cons, List.drop_zero]
  repeat (first | still_step | still_call (rrex_same _ _ _ _ hd.m m0 hs.m) | still_call (rboth_same _ _ _ hd hs))
  refine wpStill_nil ?_
  go_wp2
  go_ret
  exact lit1 w _ _ ([102, rexI d 0 s, 15, 56, 246, bothI d s]) _ rfl rfl (by simp)
theorem rbytes_21 (d s t mb mi ms md imm : Int) (w : World) (hd : Reg d) (hs : Reg s) :
    Calls Try.prog 47 #[.agg #[.int .i64 21, .int .i64 d, .int .i64 s, .int .i64 t, .int .i64 mb, .int .i64 mi, .int .i64 ms, .int .i64 md, .int .i64 imm]] w fun e w' => RetB w.heap.size ([243, rexI d 0 s, 15, 56, 246, bothI d s]) e w' ∧ Below w.heap.size w w' := by
  go_enter Try.func47, Try.ntmps47
  go_wp2
  refine still_tail 10 (by kernel_rfl) (by kernel_rfl) ?_
  simp only [List.take_succ_cons, List.take_zero, List.drop_succ_cons, List.drop_zero]
  repeat (first | still_step | still_call (rrex_same _ _ _ _ hd.m m0 hs.m) | still_call (rboth_same _ _ _ hd hs))
  refine wpStill_nil ?_
  go_wp2
  go_ret
  exact lit1 w _ _ ([243, rexI d 0 s, 15, 56, 246, bothI d s]) _ rfl rfl (by simp)
theorem rbytes_26 (d s t mb mi ms md imm : Int) (w : World) (hd : Reg d) (hs : Reg s) :
    Calls Try.prog 47 #[.agg #[.int .i64 26, .int .i64 d, .int .i64 s, .int .i64 t, .int .i64 mb, .int .i64 mi, .int .i64 ms, .int .i64 md, .int .i64 imm]] w fun e w' => RetB w.heap.size ([rexI d 0 s, 15, 66, bothI d s]) e w' ∧ Below w.heap.size w w' := by
  go_enter Try.func47, Try.ntmps47
  go_wp2
  refine still_tail 10 (by kernel_rfl) (by kernel_rfl) ?_
  simp only [List.take_succ_cons, List.take_zero, List.drop_succ_cons, List.drop_zero]
  repeat (first | still_step | still_call (rrex_same _ _ _ _ hd.m m0 hs.m) | still_call (rboth_same _ _ _ hd hs))
  refine wpStill_nil ?_
  go_wp2
  go_ret
  exact lit1 w _ _ ([rexI d 0 s, 15, 66, bothI d s]) _ rfl rfl (by simp)
theorem rbytes_27 (d s t mb mi ms md imm : Int) (w : World) (hd : Reg d) (hs : Reg s) :
    Calls Try.prog 47 #[.agg #[.int .i64 27, .int .i64 d, .int .i64 s, .int .i64 t, .int .i64 mb, .int .i64 mi, .int .i64 ms, .int .i64 md, .int .i64 imm]] w fun e w' => RetB w.heap.size ([rexI d 0 s, 15, 69, bothI d s]) e w' ∧ Below w.heap.size w w' := by
  go_enter Try.func47, Try.ntmps47
  go_wp2
  refine still_tail 10 (by kernel_rfl) (by kernel_rfl) ?_
  simp only [List.take_succ_cons, List.take_zero, List.drop_succ_cons, List.drop_zero]
  repeat (first | still_step | still_call (rrex_same _ _ _ _ hd.m m0 hs.m) | still_call (rboth_same _ _ _ hd hs))
  refine wpStill_nil ?_
  go_wp2
  go_ret
  exact lit1 w _ _ ([rexI d 0 s, 15, 69, bothI d s]) _ rfl rfl (by simp)
theorem rbytes_22 (d s t mb mi ms md imm : Int) (w : World) (hd : Reg d) :
    Calls Try.prog 47 #[.agg #[.int .i64 22, .int .i64 d, .int .i64 s, .int .i64 t, .int .i64 mb, .int .i64 mi, .int .i64 ms, .int .i64 md, .int .i64 imm]] w fun e w' => RetB w.heap.size ([rexI 0 0 d, 247, bothI 3 d]) e w' ∧ Below w.heap.size w w' := by
  go_enter Try.func47, Try.ntmps47
  go_wp2
  refine still_tail 6 (by kernel_rfl) (by kernel_rfl) ?_
  simp only [List.take_succ_cons, List.take_zero, List.drop_succ_cons, List.drop_zero]
  repeat (first | still_step | still_call (rrex_same _ _ _ _ m0 m0 hd.m) | still_call (rboth_same _ _ _ (by omega) hd))
  refine wpStill_nil ?_
  go_wp2
  go_ret
  exact lit1 w _ _ ([rexI 0 0 d, 247, bothI 3 d]) _ rfl rfl (by simp)
theorem rbytes_23 (d s t mb mi ms md imm : Int) (w : World) (hd : Reg d) :
    Calls Try.prog 47 #[.agg #[.int .i64 23, .int .i64 d, .int .i64 s, .int .i64 t, .int .i64 mb, .int .i64 mi, .int .i64 ms, .int .i64 md, .int .i64 imm]] w fun e w' => RetB w.heap.size ([rexI 0 0 d, 247, bothI 2 d]) e w' ∧ Below w.heap.size w w' := by
  go_enter Try.func47, Try.ntmps47
  go_wp2
  refine still_tail 6 (by kernel_rfl) (by kernel_rfl) ?_
  simp only [List.take_succ_cons, List.take_zero, List.drop_succ_cons, List.drop_zero]
  repeat (first | still_step | still_call (rrex_same _ _ _ _ m0 m0 hd.m) | still_call (rboth_same _ _ _ (by omega) hd))
  refine wpStill_nil ?_
  go_wp2
  go_ret
  exact lit1 w _ _ ([rexI 0 0 d, 247, bothI 2 d]) _ rfl rfl (by simp)
theorem rbytes_24 (d s t mb mi ms md imm : Int) (w : World) (hd : Reg d) (hi : 1 ≤ imm ∧ imm ≤ 63) :
    Calls Try.prog 47 #[.agg #[.int .i64 24, .int .i64 d, .int .i64 s, .int .i64 t, .int .i64 mb, .int .i64 mi, .int .i64 ms, .int .i64 md, .int .i64 imm]] w fun e w' => RetB w.heap.size ([rexI 0 0 d, 193, bothI 4 d, imm]) e w' ∧ Below w.heap.size w w' := by
  have hiw := imm_byte imm (by omega)
  go_enter Try.func47, Try.ntmps47
  go_wp2
  refine still_tail 9 (by kernel_rfl) (by kernel_rfl) ?_
  simp only [List.take_succ_cons, List.take_zero, List.drop_succ_cons, List.drop_zero]
  repeat (first | still_step | still_call (rrex_same _ _ _ _ m0 m0 hd.m) | still_call (rboth_same _ _ _ (by omega) hd))
  refine wpStill_nil ?_
  go_wp2
  go_ret
  exact lit1 w _ _ ([rexI 0 0 d, 193, bothI 4 d, imm]) _ rfl rfl (by simp)
theorem rbytes_25 (d s t mb mi ms md imm : Int) (w : World) (hd : Reg d) (hi : 1 ≤ imm ∧ imm ≤ 63) :
    Calls Try.prog 47 #[.agg #[.int .i64 25, .int .i64 d, .int .i64 s, .int .i64 t, .int .i64 mb, .int .i64 mi, .int .i64 ms, .int .i64 md, .int .i64 imm]] w fun e w' => RetB w.heap.size ([rexI 0 0 d, 193, bothI 5 d, imm]) e w' ∧ Below w.heap.size w w' := by
  have hiw := imm_byte imm (by omega)
  go_enter Try.func47, Try.ntmps47
  go_wp2
  refine still_tail 9 (by kernel_rfl) (by kernel_rfl) ?_
  simp only [List.take_succ_cons, List.take_zero, List.drop_succ_cons, List.drop_zero]
  repeat (first | still_step | still_call (rrex_same _ _ _ _ m0 m0 hd.m) | still_call (rboth_same _ _ _ (by omega) hd))
  refine wpStill_nil ?_
  go_wp2
  go_ret
  exact lit1 w _ _ ([rexI 0 0 d, 193, bothI 5 d, imm]) _ rfl rfl (by simp)
theorem rbytes_19 (d s t mb mi ms md imm : Int) (w : World) (hd : Reg d) (hs : Reg s) (ht : Reg t) :
    Calls Try.prog 47 #[.agg #[.int .i64 19, .int .i64 d, .int .i64 s, .int .i64 t, .int .i64 mb, .int .i64 mi, .int .i64 ms, .int .i64 md, .int .i64 imm]] w fun e w' => RetB w.heap.size ([196, mulx1 d t, mulx2 s, 246, bothI d t]) e w' ∧ Below w.heap.size w w' := by
  go_enter Try.func47, Try.ntmps47
  go_wp2
  refine still_tail 23 (by kernel_rfl) (by kernel_rfl) ?_
  simp only [List.take_succ_cons, List.take_zero, List.drop_succ_cons, List.drop_zero]
  repeat (first | still_step | still_call (rhigh_same _ _ hd.m) | still_call (rhigh_same _ _ ht.m) | still_call (rboth_same _ _ _ hd ht))
  refine wpStill_nil ?_
  go_wp2
  go_ret
  rw [mx1_form, mx2_form _ hs]
  exact lit1 w _ _ ([196, mulx1 d t, mulx2 s, 246, bothI d t]) _ rfl rfl (by simp)
theorem rbytes_28h (d s t mb mi ms md imm : Int) (w : World) (hr : 0 ≤ s ∧ s ≤ 15) (h7 : 7 < s) :
    Calls Try.prog 47 #[.agg #[.int .i64 28, .int .i64 d, .int .i64 s, .int .i64 t, .int .i64 mb, .int .i64 mi, .int .i64 ms, .int .i64 md, .int .i64 imm]] w fun e w' => RetB w.heap.size ([65, 80 + s % 8]) e w' ∧ Below w.heap.size w w' := by
  have h8 : decide (7 < s) = true := by simpa using h7
  go_enter Try.func47, Try.ntmps47
  go_wp2
  go_ret
  exact lit1' w _ _ ([65, 80 + s % 8]) _ rfl rfl (by simp)
theorem rbytes_28l (d s t mb mi ms md imm : Int) (w : World) (hr : 0 ≤ s ∧ s ≤ 15) (h7 : ¬ 7 < s) :
    Calls Try.prog 47 #[.agg #[.int .i64 28, .int .i64 d, .int .i64 s, .int .i64 t, .int .i64 mb, .int .i64 mi, .int .i64 ms, .int .i64 md, .int .i64 imm]] w fun e w' => RetB w.heap.size ([80 + s]) e w' ∧ Below w.heap.size w w' := by
  have h8 : decide (7 < s) = false := by simpa using h7
  go_enter Try.func47, Try.ntmps47
  go_wp2
  go_ret
  exact lit1' w _ _ ([80 + s]) _ rfl rfl (by simp)
theorem rbytes_28 (d s t mb mi ms md imm : Int) (w : World) (hr : Reg s) :
    Calls Try.prog 47 #[.agg #[.int .i64 28, .int .i64 d, .int .i64 s, .int .i64 t, .int .i64 mb, .int .i64 mi, .int .i64 ms, .int .i64 md, .int .i64 imm]] w fun e w' => RetB w.heap.size (stackL 80 s) e w' ∧ Below w.heap.size w w' := by
  have hr' : 0 ≤ s ∧ s ≤ 15 := hr
  by_cases h : 7 < s
  · have e : stackL 80 s = [65, 80 + s % 8] := by rw [stackL_hi _ _ (by omega), lo_u8]
    rw [e]; exact rbytes_28h d s t mb mi ms md imm w hr' h
  · have e : stackL 80 s = [80 + s] := by rw [stackL_lo _ _ (by omega) (by omega)]
    rw [e]; exact rbytes_28l d s t mb mi ms md imm w hr' h
theorem rbytes_29h (d s t mb mi ms md imm : Int) (w : World) (hr : 0 ≤ d ∧ d ≤ 15) (h7 : 7 < d) :
    Calls Try.prog 47 #[.agg #[.int .i64 29, .int .i64 d, .int .i64 s, .int .i64 t, .int .i64 mb, .int .i64 mi, .int .i64 ms, .int .i64 md, .int .i64 imm]] w fun e w' => RetB w.heap.size ([65, 88 + d % 8]) e w' ∧ Below w.heap.size w w' := by
  have h8 : decide (7 < d) = true := by simpa using h7
  go_enter Try.func47, Try.ntmps47
  go_wp2
  go_ret
  exact lit1' w _ _ ([65, 88 + d % 8]) _ rfl rfl (by simp)
theorem rbytes_29l (d s t mb mi ms md imm : Int) (w : World) (hr : 0 ≤ d ∧ d ≤ 15) (h7 : ¬ 7 < d) :
    Calls Try.prog 47 #[.agg #[.int .i64 29, .int .i64 d, .int .i64 s, .int .i64 t, .int .i64 mb, .int .i64 mi, .int .i64 ms, .int .i64 md, .int .i64 imm]] w fun e w' => RetB w.heap.size ([88 + d]) e w' ∧ Below w.heap.size w w' := by
  have h8 : decide (7 < d) = false := by simpa using h7
  go_enter Try.func47, Try.ntmps47
  go_wp2
  go_ret
  exact lit1' w _ _ ([88 + d]) _ rfl rfl (by simp)
theorem rbytes_29 (d s t mb mi ms md imm : Int) (w : World) (hr : Reg d) :
    Calls Try.prog 47 #[.agg #[.int .i64 29, .int .i64 d, .int .i64 s, .int .i64 t, .int .i64 mb, .int .i64 mi, .int .i64 ms, .int .i64 md, .int .i64 imm]] w fun e w' => RetB w.heap.size (stackL 88 d) e w' ∧ Below w.heap.size w w' := by
  have hr' : 0 ≤ d ∧ d ≤ 15 := hr
  by_cases h : 7 < d
  · have e : stackL 88 d = [65, 88 + d % 8] := by rw [stackL_hi _ _ (by omega), lo_u8]
    rw [e]; exact rbytes_29h d s t mb mi ms md imm w hr' h
  · have e : stackL 88 d = [88 + d] := by rw [stackL_lo _ _ (by omega) (by omega)]
    rw [e]; exact rbytes_29l d s t mb mi ms md imm w hr' h
theorem rbytes_33 (d s t mb mi ms md imm : Int) (w : World)  :
    Calls Try.prog 47 #[.agg #[.int .i64 33, .int .i64 d, .int .i64 s, .int .i64 t, .int .i64 mb, .int .i64 mi, .int .i64 ms, .int .i64 md, .int .i64 imm]] w fun e w' => RetB w.heap.size ([195]) e w' ∧ Below w.heap.size w w' := by
  go_enter Try.func47, Try.ntmps47
  go_wp2
  go_ret
  exact lit1' w _ _ [195] _ rfl rfl (by simp)
theorem rbytes_30 (d s t mb mi ms md imm : Int) (w : World) (hi : -9223372036854775808 ≤ imm ∧ imm ≤ 9223372036854775807) :
    Calls Try.prog 47 #[.agg #[.int .i64 30, .int .i64 d, .int .i64 s, .int .i64 t, .int .i64 mb, .int .i64 mi, .int .i64 ms, .int .i64 md, .int .i64 imm]] w fun e w' => RetB w.heap.size ([233] ++ littleL imm 4) e w' ∧ Below w.heap.size w w' := by
  go_enter Try.func47, Try.ntmps47
  go_wp2_with fail
  go_at_call 77
  refine (rlittle_4 imm _ hi).mono ?_
  rintro e w1 ⟨⟨y, rfl, hy⟩, hb1⟩
  obtain ⟨hL, hB0⟩ := lit1' w (Obj.cells #[.int .i64 30, .int .i64 d, .int .i64 s, .int .i64 t, .int .i64 mb, .int .i64 mi, .int .i64 ms, .int .i64 md, .int .i64 imm] 35) #[.int .u8 233] [233] 1 rfl rfl (by simp)
  obtain ⟨v0, hv0, hL0⟩ := hL
  cases hv0
  have hL1 := hL0.later hb1
  have hB : Below w.heap.size w w1 := hB0.trans (hb1.mono (by simp only [World.size_alloc]; omega))
  have hz2 := hB.size
  have hle : w.heap.size ≤ ((w.alloc (Obj.cells #[.int .i64 30, .int .i64 d, .int .i64 s, .int .i64 t, .int .i64 mb, .int .i64 mi, .int .i64 ms, .int .i64 md, .int .i64 imm] 35)).alloc (.cells #[.int .u8 233] 5)).heap.size := by simp only [World.size_alloc]; omega
  have hy1 := hy.mono hle
  clear hL0 hb1 hB0 hy hle
  go_wp2_with (at_builtin; refine wpList_appB (xs := [233]) (bs := littleL imm 4) (B := w.heap.size) rfl _ _ rfl rfl rfl hL1 hy1 hz2 (by rw [littleL_length]; simp) ?_; intro v' w' hB' hb')
  go_ret
  exact ⟨⟨_, rfl, hB'⟩, hB.trans hb'⟩
theorem rbytes_31 (d s t mb mi ms md imm : Int) (w : World) (hi : -9223372036854775808 ≤ imm ∧ imm ≤ 9223372036854775807) :
    Calls Try.prog 47 #[.agg #[.int .i64 31, .int .i64 d, .int .i64 s, .int .i64 t, .int .i64 mb, .int .i64 mi, .int .i64 ms, .int .i64 md, .int .i64 imm]] w fun e w' => RetB w.heap.size ([15, 133] ++ littleL imm 4) e w' ∧ Below w.heap.size w w' := by
  go_enter Try.func47, Try.ntmps47
  go_wp2_with fail
  go_at_call 77
  refine (rlittle_4 imm _ hi).mono ?_
  rintro e w1 ⟨⟨y, rfl, hy⟩, hb1⟩
  obtain ⟨hL, hB0⟩ := lit1' w (Obj.cells #[.int .i64 31, .int .i64 d, .int .i64 s, .int .i64 t, .int .i64 mb, .int .i64 mi, .int .i64 ms, .int .i64 md, .int .i64 imm] 35) #[.int .u8 15, .int .u8 133] [15, 133] 2 rfl rfl (by simp)
  obtain ⟨v0, hv0, hL0⟩ := hL
  cases hv0
  have hL1 := hL0.later hb1
  have hB : Below w.heap.size w w1 := hB0.trans (hb1.mono (by simp only [World.size_alloc]; omega))
  have hz2 := hB.size
  have hle : w.heap.size ≤ ((w.alloc (Obj.cells #[.int .i64 31, .int .i64 d, .int .i64 s, .int .i64 t, .int .i64 mb, .int .i64 mi, .int .i64 ms, .int .i64 md, .int .i64 imm] 35)).alloc (.cells #[.int .u8 15, .int .u8 133] 5)).heap.size := by simp only [World.size_alloc]; omega
  have hy1 := hy.mono hle
  clear hL0 hb1 hB0 hy hle
  go_wp2_with (at_builtin; refine wpList_appB (xs := [15, 133]) (bs := littleL imm 4) (B := w.heap.size) rfl _ _ rfl rfl rfl hL1 hy1 hz2 (by rw [littleL_length]; simp) ?_; intro v' w' hB' hb')
  go_ret
  exact ⟨⟨_, rfl, hB'⟩, hB.trans hb'⟩
theorem rbytes_32 (d s t mb mi ms md imm : Int) (w : World) (hi : -9223372036854775808 ≤ imm ∧ imm ≤ 9223372036854775807) :
    Calls Try.prog 47 #[.agg #[.int .i64 32, .int .i64 d, .int .i64 s, .int .i64 t, .int .i64 mb, .int .i64 mi, .int .i64 ms, .int .i64 md, .int .i64 imm]] w fun e w' => RetB w.heap.size ([15, 130] ++ littleL imm 4) e w' ∧ Below w.heap.size w w' := by
  go_enter Try.func47, Try.ntmps47
  go_wp2_with fail
  go_at_call 77
  refine (rlittle_4 imm _ hi).mono ?_
  rintro e w1 ⟨⟨y, rfl, hy⟩, hb1⟩
  obtain ⟨hL, hB0⟩ := lit1' w (Obj.cells #[.int .i64 32, .int .i64 d, .int .i64 s, .int .i64 t, .int .i64 mb, .int .i64 mi, .int .i64 ms, .int .i64 md, .int .i64 imm] 35) #[.int .u8 15, .int .u8 130] [15, 130] 2 rfl rfl (by simp)
  obtain ⟨v0, hv0, hL0⟩ := hL
  cases hv0
  have hL1 := hL0.later hb1
  have hB : Below w.heap.size w w1 := hB0.trans (hb1.mono (by simp only [World.size_alloc]; omega))
  have hz2 := hB.size
  have hle : w.heap.size ≤ ((w.alloc (Obj.cells #[.int .i64 32, .int .i64 d, .int .i64 s, .int .i64 t, .int .i64 mb, .int .i64 mi, .int .i64 ms, .int .i64 md, .int .i64 imm] 35)).alloc (.cells #[.int .u8 15, .int .u8 130] 5)).heap.size := by simp only [World.size_alloc]; omega
  have hy1 := hy.mono hle
  clear hL0 hb1 hB0 hy hle
  go_wp2_with (at_builtin; refine wpList_appB (xs := [15, 130]) (bs := littleL imm 4) (B := w.heap.size) rfl _ _ rfl rfl rfl hL1 hy1 hz2 (by rw [littleL_length]; simp) ?_; intro v' w' hB' hb')
  go_ret
  exact ⟨⟨_, rfl, hB'⟩, hB.trans hb'⟩
end Go.Proofs.Ytbcaelhchmoigaa
namespace Go.Proofs.Ytbcaelhchmoigaa
open Go.RowKit Calm
theorem u8_small {n : Int} (h : 0 ≤ n ∧ n ≤ 255) : IntKind.u8.wrap n = n := by
  simp only [IntKind.wrap, IntKind.bits, IntKind.signed]
  simp
  omega
theorem wrap_small6 {n : Int} (h : -1000 ≤ n ∧ n ≤ 1000) : IntKind.i64.wrap n = n := by
  simp only [IntKind.wrap, IntKind.bits, IntKind.signed]
  simp
  split <;> omega
attribute [local irreducible] placeL loR hiR rexI bothI littleL
theorem rbytes_2 (d s t mb mi ms md imm : Int) (w : World) (hd : Reg d) (hn : -9223372036854775808 ≤ imm ∧ imm ≤ 9223372036854775807) :
    Calls Try.prog 47 #[.agg #[.int .i64 2, .int .i64 d, .int .i64 s, .int .i64 t, .int .i64 mb, .int .i64 mi, .int .i64 ms, .int .i64 md, .int .i64 imm]] w fun e w' => RetB w.heap.size ([rexI 0 0 d, 184 + loR d] ++ littleL imm 8) e w' ∧ Below w.heap.size w w' := by
  have hdd : 0 ≤ d ∧ d ≤ 15 := hd
  have ht : Int.tmod d 8 = d % 8 := by rw [Int.tmod_eq_emod_of_nonneg hdd.1]
  have hw0 : IntKind.u8.wrap (d % 8) = d % 8 := u8_small (by omega)
  have hw1 : IntKind.u8.wrap (184 + d % 8) = 184 + d % 8 := u8_small (by omega)
  have hw2 : IntKind.i64.wrap (d % 8) = d % 8 := wrap_small6 (by omega)
  go_enter Try.func47, Try.ntmps47
  go_wp2
  obtain ⟨W, hW⟩ : ∃ W, W = w.alloc (.cells #[.int .i64 2, .int .i64 d, .int .i64 s, .int .i64 t, .int .i64 mb, .int .i64 mi, .int .i64 ms, .int .i64 md, .int .i64 imm] 35) := ⟨_, rfl⟩
  have hB : Below w.heap.size w W := by rw [hW]; exact bal (Below.refl _ _) _
  have hz : W.heap.size = w.heap.size + 1 := by rw [hW]; simp
  have f_d : W.cell? ⟨w.heap.size, 1, none⟩ = some (.int .i64 d) := by rw [hW]; go_simp
  have f_s : W.cell? ⟨w.heap.size, 2, none⟩ = some (.int .i64 s) := by rw [hW]; go_simp
  have f_t : W.cell? ⟨w.heap.size, 3, none⟩ = some (.int .i64 t) := by rw [hW]; go_simp
  have f_imm : W.cell? ⟨w.heap.size, 8, none⟩ = some (.int .i64 imm) := by rw [hW]; go_simp
  rw [← hW]
  clear hW
  have k0 : w.heap.size < W.heap.size := by omega
  have k2 : w.heap.size < W.heap.size + 1 := by omega
  go_region_held3 (fun V : World => V.cell? ⟨w.heap.size, 1, none⟩ = some (.int .i64 d) ∧ V.cell? ⟨w.heap.size, 2, none⟩ = some (.int .i64 s) ∧ V.cell? ⟨w.heap.size, 3, none⟩ = some (.int .i64 t) ∧ V.cell? ⟨w.heap.size, 8, none⟩ = some (.int .i64 imm))
    (first | exact ⟨f_d, f_s, f_t, f_imm⟩ | exact k4_below hfin k0 k0 k0 k0 ⟨f_d, f_s, f_t, f_imm⟩ | exact k4_below hfin1 k0 k0 k0 k0 ⟨f_d, f_s, f_t, f_imm⟩ | exact k4_alloc _ ⟨f_d, f_s, f_t, f_imm⟩ | exact k4_alloc _ (k4_below hfin1 k0 k0 k0 k0 ⟨f_d, f_s, f_t, f_imm⟩))
    (first | (go_at_call 76; refine (rrex_any 0 0 d _ m0 m0 hd.m).mono ?_; rintro e w' ⟨rfl, rfl⟩) | (go_at_call 77; refine (rlittle_8 imm _ hn).mono ?_; rintro e w1 ⟨⟨y, rfl, hy⟩, hb1⟩; have hfin1 : Below W.heap.size W w1 := by (first | exact fin1 hb1 | exact fin2 hb1)) | (have hq := finA W _ _ hz #[.int .u8 (rexI 0 0 d), .int .u8 (184 + d % 8)] [rexI 0 0 d, 184 + d % 8] (littleL imm 8) _ 2 rfl rfl (by simp) hb1 hy; refine step_appB rfl _ _ rfl rfl rfl hq.1 hq.2.1 hq.2.2.2 (by rw [littleL_length]; simp) ?_; intro v' w' hv' hb'; have hfin := hq.2.2.1.trans hb') | (have hq := finB W _ #[.int .u8 (rexI 0 0 d), .int .u8 (184 + d % 8)] [rexI 0 0 d, 184 + d % 8] (littleL imm 8) _ 2 rfl rfl (by simp) hb1 hy; refine step_appB rfl _ _ rfl rfl rfl hq.1 hq.2.1 hq.2.2.2 (by rw [littleL_length]; simp) ?_; intro v' w' hv' hb'; have hfin := hq.2.2.1.trans hb'))
  all_goals (go_wp2; go_ret; exact ⟨⟨_, rfl, (hv'.mono (by omega)).cast (by simp only [lo_u8, List.cons_append, List.nil_append])⟩, hB.trans (hfin.mono (by omega))⟩)
theorem rbytes_3 (d s t mb mi ms md imm : Int) (w : World) (hd : Reg d) (hp : plc mb mi ms md = true) :
    Calls Try.prog 47 #[.agg #[.int .i64 3, .int .i64 d, .int .i64 s, .int .i64 t, .int .i64 mb, .int .i64 mi, .int .i64 ms, .int .i64 md, .int .i64 imm]] w fun e w' => RetB w.heap.size ([rexI d mi mb, 139] ++ placeL d mb mi ms md) e w' ∧ Below w.heap.size w w' := by
  have hb := (plc_facts hp).1
  have hi := plc_index hp
  go_enter Try.func47, Try.ntmps47
  go_wp2
  obtain ⟨W, hW⟩ : ∃ W, W = w.alloc (.cells #[.int .i64 3, .int .i64 d, .int .i64 s, .int .i64 t, .int .i64 mb, .int .i64 mi, .int .i64 ms, .int .i64 md, .int .i64 imm] 35) := ⟨_, rfl⟩
  have hB : Below w.heap.size w W := by rw [hW]; exact bal (Below.refl _ _) _
  have hz : W.heap.size = w.heap.size + 1 := by rw [hW]; simp
  have f_d : W.cell? ⟨w.heap.size, 1, none⟩ = some (.int .i64 d) := by rw [hW]; go_simp
  have f_mb : W.cell? ⟨w.heap.size, 4, none⟩ = some (.int .i64 mb) := by rw [hW]; go_simp
  have f_mi : W.cell? ⟨w.heap.size, 5, none⟩ = some (.int .i64 mi) := by rw [hW]; go_simp
  have f_ms : W.cell? ⟨w.heap.size, 6, none⟩ = some (.int .i64 ms) := by rw [hW]; go_simp
  have f_md : W.cell? ⟨w.heap.size, 7, none⟩ = some (.int .i64 md) := by rw [hW]; go_simp
  have f_imm : W.cell? ⟨w.heap.size, 8, none⟩ = some (.int .i64 imm) := by rw [hW]; go_simp
  rw [← hW]
  clear hW
  have k0 : w.heap.size < W.heap.size := by omega
  have k2 : w.heap.size < W.heap.size + 1 := by omega
  go_region_held3 (fun V : World => V.cell? ⟨w.heap.size, 1, none⟩ = some (.int .i64 d) ∧ V.cell? ⟨w.heap.size, 4, none⟩ = some (.int .i64 mb) ∧ V.cell? ⟨w.heap.size, 5, none⟩ = some (.int .i64 mi) ∧ V.cell? ⟨w.heap.size, 6, none⟩ = some (.int .i64 ms) ∧ V.cell? ⟨w.heap.size, 7, none⟩ = some (.int .i64 md) ∧ V.cell? ⟨w.heap.size, 8, none⟩ = some (.int .i64 imm))
    (first | exact ⟨f_d, f_mb, f_mi, f_ms, f_md, f_imm⟩ | exact k6_below hfin k0 k0 k0 k0 k0 k0 ⟨f_d, f_mb, f_mi, f_ms, f_md, f_imm⟩ | exact k6_below hfin1 k0 k0 k0 k0 k0 k0 ⟨f_d, f_mb, f_mi, f_ms, f_md, f_imm⟩ | exact k6_alloc _ ⟨f_d, f_mb, f_mi, f_ms, f_md, f_imm⟩ | exact k6_alloc _ (k6_below hfin1 k0 k0 k0 k0 k0 k0 ⟨f_d, f_mb, f_mi, f_ms, f_md, f_imm⟩))
    (first | (go_at_call 76; refine (rrex_any d mi mb _ hd.m hi (Reg.m hb)).mono ?_; rintro e w' ⟨rfl, rfl⟩) | (go_at_call 78; refine (rplace6_any d mb mi ms md _ hd hp).mono ?_; rintro e w1 ⟨⟨y, rfl, hy⟩, hb1⟩; have hfin1 : Below W.heap.size W w1 := by (first | exact fin1 hb1 | exact fin2 hb1)) | (have hq := finA W _ _ hz #[.int .u8 (rexI d mi mb), .int .u8 (139)] [rexI d mi mb, 139] (placeL d mb mi ms md) _ 2 rfl rfl (by simp) hb1 hy; refine step_appB rfl _ _ rfl rfl rfl hq.1 hq.2.1 hq.2.2.2 (by have := placeL_length d mb mi ms md; simp; omega) ?_; intro v' w' hv' hb'; have hfin := hq.2.2.1.trans hb') | (have hq := finB W _ #[.int .u8 (rexI d mi mb), .int .u8 (139)] [rexI d mi mb, 139] (placeL d mb mi ms md) _ 2 rfl rfl (by simp) hb1 hy; refine step_appB rfl _ _ rfl rfl rfl hq.1 hq.2.1 hq.2.2.2 (by have := placeL_length d mb mi ms md; simp; omega) ?_; intro v' w' hv' hb'; have hfin := hq.2.2.1.trans hb'))
  all_goals (go_wp2; go_ret; exact ⟨⟨_, rfl, (hv'.mono (by omega))⟩, hB.trans (hfin.mono (by omega))⟩)
theorem rbytes_4 (d s t mb mi ms md imm : Int) (w : World) (hs : Reg s) (hp : plc mb mi ms md = true) :
    Calls Try.prog 47 #[.agg #[.int .i64 4, .int .i64 d, .int .i64 s, .int .i64 t, .int .i64 mb, .int .i64 mi, .int .i64 ms, .int .i64 md, .int .i64 imm]] w fun e w' => RetB w.heap.size ([rexI s mi mb, 137] ++ placeL s mb mi ms md) e w' ∧ Below w.heap.size w w' := by
  have hb := (plc_facts hp).1
  have hi := plc_index hp
  go_enter Try.func47, Try.ntmps47
  go_wp2
  obtain ⟨W, hW⟩ : ∃ W, W = w.alloc (.cells #[.int .i64 4, .int .i64 d, .int .i64 s, .int .i64 t, .int .i64 mb, .int .i64 mi, .int .i64 ms, .int .i64 md, .int .i64 imm] 35) := ⟨_, rfl⟩
  have hB : Below w.heap.size w W := by rw [hW]; exact bal (Below.refl _ _) _
  have hz : W.heap.size = w.heap.size + 1 := by rw [hW]; simp
  have f_s : W.cell? ⟨w.heap.size, 2, none⟩ = some (.int .i64 s) := by rw [hW]; go_simp
  have f_mb : W.cell? ⟨w.heap.size, 4, none⟩ = some (.int .i64 mb) := by rw [hW]; go_simp
  have f_mi : W.cell? ⟨w.heap.size, 5, none⟩ = some (.int .i64 mi) := by rw [hW]; go_simp
  have f_ms : W.cell? ⟨w.heap.size, 6, none⟩ = some (.int .i64 ms) := by rw [hW]; go_simp
  have f_md : W.cell? ⟨w.heap.size, 7, none⟩ = some (.int .i64 md) := by rw [hW]; go_simp
  have f_imm : W.cell? ⟨w.heap.size, 8, none⟩ = some (.int .i64 imm) := by rw [hW]; go_simp
  rw [← hW]
  clear hW
  have k0 : w.heap.size < W.heap.size := by omega
  have k2 : w.heap.size < W.heap.size + 1 := by omega
  go_region_held3 (fun V : World => V.cell? ⟨w.heap.size, 2, none⟩ = some (.int .i64 s) ∧ V.cell? ⟨w.heap.size, 4, none⟩ = some (.int .i64 mb) ∧ V.cell? ⟨w.heap.size, 5, none⟩ = some (.int .i64 mi) ∧ V.cell? ⟨w.heap.size, 6, none⟩ = some (.int .i64 ms) ∧ V.cell? ⟨w.heap.size, 7, none⟩ = some (.int .i64 md) ∧ V.cell? ⟨w.heap.size, 8, none⟩ = some (.int .i64 imm))
    (first | exact ⟨f_s, f_mb, f_mi, f_ms, f_md, f_imm⟩ | exact k6_below hfin k0 k0 k0 k0 k0 k0 ⟨f_s, f_mb, f_mi, f_ms, f_md, f_imm⟩ | exact k6_below hfin1 k0 k0 k0 k0 k0 k0 ⟨f_s, f_mb, f_mi, f_ms, f_md, f_imm⟩ | exact k6_alloc _ ⟨f_s, f_mb, f_mi, f_ms, f_md, f_imm⟩ | exact k6_alloc _ (k6_below hfin1 k0 k0 k0 k0 k0 k0 ⟨f_s, f_mb, f_mi, f_ms, f_md, f_imm⟩))
    (first | (go_at_call 76; refine (rrex_any s mi mb _ hs.m hi (Reg.m hb)).mono ?_; rintro e w' ⟨rfl, rfl⟩) | (go_at_call 78; refine (rplace6_any s mb mi ms md _ hs hp).mono ?_; rintro e w1 ⟨⟨y, rfl, hy⟩, hb1⟩; have hfin1 : Below W.heap.size W w1 := by (first | exact fin1 hb1 | exact fin2 hb1)) | (have hq := finA W _ _ hz #[.int .u8 (rexI s mi mb), .int .u8 (137)] [rexI s mi mb, 137] (placeL s mb mi ms md) _ 2 rfl rfl (by simp) hb1 hy; refine step_appB rfl _ _ rfl rfl rfl hq.1 hq.2.1 hq.2.2.2 (by have := placeL_length s mb mi ms md; simp; omega) ?_; intro v' w' hv' hb'; have hfin := hq.2.2.1.trans hb') | (have hq := finB W _ #[.int .u8 (rexI s mi mb), .int .u8 (137)] [rexI s mi mb, 137] (placeL s mb mi ms md) _ 2 rfl rfl (by simp) hb1 hy; refine step_appB rfl _ _ rfl rfl rfl hq.1 hq.2.1 hq.2.2.2 (by have := placeL_length s mb mi ms md; simp; omega) ?_; intro v' w' hv' hb'; have hfin := hq.2.2.1.trans hb'))
  all_goals (go_wp2; go_ret; exact ⟨⟨_, rfl, (hv'.mono (by omega))⟩, hB.trans (hfin.mono (by omega))⟩)
theorem rbytes_5 (d s t mb mi ms md imm : Int) (w : World) (hd : Reg d) (hp : plc mb mi ms md = true) :
    Calls Try.prog 47 #[.agg #[.int .i64 5, .int .i64 d, .int .i64 s, .int .i64 t, .int .i64 mb, .int .i64 mi, .int .i64 ms, .int .i64 md, .int .i64 imm]] w fun e w' => RetB w.heap.size ([rexI d mi mb, 141] ++ placeL d mb mi ms md) e w' ∧ Below w.heap.size w w' := by
  have hb := (plc_facts hp).1
  have hi := plc_index hp
  go_enter Try.func47, Try.ntmps47
  go_wp2
  obtain ⟨W, hW⟩ : ∃ W, W = w.alloc (.cells #[.int .i64 5, .int .i64 d, .int .i64 s, .int .i64 t, .int .i64 mb, .int .i64 mi, .int .i64 ms, .int .i64 md, .int .i64 imm] 35) := ⟨_, rfl⟩
  have hB : Below w.heap.size w W := by rw [hW]; exact bal (Below.refl _ _) _
  have hz : W.heap.size = w.heap.size + 1 := by rw [hW]; simp
  have f_d : W.cell? ⟨w.heap.size, 1, none⟩ = some (.int .i64 d) := by rw [hW]; go_simp
  have f_mb : W.cell? ⟨w.heap.size, 4, none⟩ = some (.int .i64 mb) := by rw [hW]; go_simp
  have f_mi : W.cell? ⟨w.heap.size, 5, none⟩ = some (.int .i64 mi) := by rw [hW]; go_simp
  have f_ms : W.cell? ⟨w.heap.size, 6, none⟩ = some (.int .i64 ms) := by rw [hW]; go_simp
  have f_md : W.cell? ⟨w.heap.size, 7, none⟩ = some (.int .i64 md) := by rw [hW]; go_simp
  have f_imm : W.cell? ⟨w.heap.size, 8, none⟩ = some (.int .i64 imm) := by rw [hW]; go_simp
  rw [← hW]
  clear hW
  have k0 : w.heap.size < W.heap.size := by omega
  have k2 : w.heap.size < W.heap.size + 1 := by omega
  go_region_held3 (fun V : World => V.cell? ⟨w.heap.size, 1, none⟩ = some (.int .i64 d) ∧ V.cell? ⟨w.heap.size, 4, none⟩ = some (.int .i64 mb) ∧ V.cell? ⟨w.heap.size, 5, none⟩ = some (.int .i64 mi) ∧ V.cell? ⟨w.heap.size, 6, none⟩ = some (.int .i64 ms) ∧ V.cell? ⟨w.heap.size, 7, none⟩ = some (.int .i64 md) ∧ V.cell? ⟨w.heap.size, 8, none⟩ = some (.int .i64 imm))
    (first | exact ⟨f_d, f_mb, f_mi, f_ms, f_md, f_imm⟩ | exact k6_below hfin k0 k0 k0 k0 k0 k0 ⟨f_d, f_mb, f_mi, f_ms, f_md, f_imm⟩ | exact k6_below hfin1 k0 k0 k0 k0 k0 k0 ⟨f_d, f_mb, f_mi, f_ms, f_md, f_imm⟩ | exact k6_alloc _ ⟨f_d, f_mb, f_mi, f_ms, f_md, f_imm⟩ | exact k6_alloc _ (k6_below hfin1 k0 k0 k0 k0 k0 k0 ⟨f_d, f_mb, f_mi, f_ms, f_md, f_imm⟩))
    (first | (go_at_call 76; refine (rrex_any d mi mb _ hd.m hi (Reg.m hb)).mono ?_; rintro e w' ⟨rfl, rfl⟩) | (go_at_call 78; refine (rplace6_any d mb mi ms md _ hd hp).mono ?_; rintro e w1 ⟨⟨y, rfl, hy⟩, hb1⟩; have hfin1 : Below W.heap.size W w1 := by (first | exact fin1 hb1 | exact fin2 hb1)) | (have hq := finA W _ _ hz #[.int .u8 (rexI d mi mb), .int .u8 (141)] [rexI d mi mb, 141] (placeL d mb mi ms md) _ 2 rfl rfl (by simp) hb1 hy; refine step_appB rfl _ _ rfl rfl rfl hq.1 hq.2.1 hq.2.2.2 (by have := placeL_length d mb mi ms md; simp; omega) ?_; intro v' w' hv' hb'; have hfin := hq.2.2.1.trans hb') | (have hq := finB W _ #[.int .u8 (rexI d mi mb), .int .u8 (141)] [rexI d mi mb, 141] (placeL d mb mi ms md) _ 2 rfl rfl (by simp) hb1 hy; refine step_appB rfl _ _ rfl rfl rfl hq.1 hq.2.1 hq.2.2.2 (by have := placeL_length d mb mi ms md; simp; omega) ?_; intro v' w' hv' hb'; have hfin := hq.2.2.1.trans hb'))
  all_goals (go_wp2; go_ret; exact ⟨⟨_, rfl, (hv'.mono (by omega))⟩, hB.trans (hfin.mono (by omega))⟩)
theorem rbytes_15 (d s t mb mi ms md imm : Int) (w : World) (hd : Reg d) (hn : -9223372036854775808 ≤ imm ∧ imm ≤ 9223372036854775807) :
    Calls Try.prog 47 #[.agg #[.int .i64 15, .int .i64 d, .int .i64 s, .int .i64 t, .int .i64 mb, .int .i64 mi, .int .i64 ms, .int .i64 md, .int .i64 imm]] w fun e w' => RetB w.heap.size ([rexI 0 0 d, 129, bothI 0 d] ++ littleL imm 4) e w' ∧ Below w.heap.size w w' := by
  go_enter Try.func47, Try.ntmps47
  go_wp2
  obtain ⟨W, hW⟩ : ∃ W, W = w.alloc (.cells #[.int .i64 15, .int .i64 d, .int .i64 s, .int .i64 t, .int .i64 mb, .int .i64 mi, .int .i64 ms, .int .i64 md, .int .i64 imm] 35) := ⟨_, rfl⟩
  have hB : Below w.heap.size w W := by rw [hW]; exact bal (Below.refl _ _) _
  have hz : W.heap.size = w.heap.size + 1 := by rw [hW]; simp
  have f_d : W.cell? ⟨w.heap.size, 1, none⟩ = some (.int .i64 d) := by rw [hW]; go_simp
  have f_s : W.cell? ⟨w.heap.size, 2, none⟩ = some (.int .i64 s) := by rw [hW]; go_simp
  have f_t : W.cell? ⟨w.heap.size, 3, none⟩ = some (.int .i64 t) := by rw [hW]; go_simp
  have f_imm : W.cell? ⟨w.heap.size, 8, none⟩ = some (.int .i64 imm) := by rw [hW]; go_simp
  rw [← hW]
  clear hW
  have k0 : w.heap.size < W.heap.size := by omega
  have k2 : w.heap.size < W.heap.size + 1 := by omega
  go_region_held3 (fun V : World => V.cell? ⟨w.heap.size, 1, none⟩ = some (.int .i64 d) ∧ V.cell? ⟨w.heap.size, 2, none⟩ = some (.int .i64 s) ∧ V.cell? ⟨w.heap.size, 3, none⟩ = some (.int .i64 t) ∧ V.cell? ⟨w.heap.size, 8, none⟩ = some (.int .i64 imm))
    (first | exact ⟨f_d, f_s, f_t, f_imm⟩ | exact k4_below hfin k0 k0 k0 k0 ⟨f_d, f_s, f_t, f_imm⟩ | exact k4_below hfin1 k0 k0 k0 k0 ⟨f_d, f_s, f_t, f_imm⟩ | exact k4_alloc _ ⟨f_d, f_s, f_t, f_imm⟩ | exact k4_alloc _ (k4_below hfin1 k0 k0 k0 k0 ⟨f_d, f_s, f_t, f_imm⟩))
    (first | (go_at_call 76; refine (rrex_any 0 0 d _ m0 m0 hd.m).mono ?_; rintro e w' ⟨rfl, rfl⟩) | (go_at_call 79; refine (rboth_any 0 d _ (by omega) hd).mono ?_; rintro e w' ⟨rfl, rfl⟩) | (go_at_call 77; refine (rlittle_4 imm _ hn).mono ?_; rintro e w1 ⟨⟨y, rfl, hy⟩, hb1⟩; have hfin1 : Below W.heap.size W w1 := by (first | exact fin1 hb1 | exact fin2 hb1)) | (have hq := finA W _ _ hz #[.int .u8 (rexI 0 0 d), .int .u8 (129), .int .u8 (bothI 0 d)] [rexI 0 0 d, 129, bothI 0 d] (littleL imm 4) _ 3 rfl rfl (by simp) hb1 hy; refine step_appB rfl _ _ rfl rfl rfl hq.1 hq.2.1 hq.2.2.2 (by rw [littleL_length]; simp) ?_; intro v' w' hv' hb'; have hfin := hq.2.2.1.trans hb') | (have hq := finB W _ #[.int .u8 (rexI 0 0 d), .int .u8 (129), .int .u8 (bothI 0 d)] [rexI 0 0 d, 129, bothI 0 d] (littleL imm 4) _ 3 rfl rfl (by simp) hb1 hy; refine step_appB rfl _ _ rfl rfl rfl hq.1 hq.2.1 hq.2.2.2 (by rw [littleL_length]; simp) ?_; intro v' w' hv' hb'; have hfin := hq.2.2.1.trans hb'))
  all_goals (go_wp2; go_ret; exact ⟨⟨_, rfl, (hv'.mono (by omega))⟩, hB.trans (hfin.mono (by omega))⟩)
theorem rbytes_16 (d s t mb mi ms md imm : Int) (w : World) (hd : Reg d) (hn : -9223372036854775808 ≤ imm ∧ imm ≤ 9223372036854775807) :
    Calls Try.prog 47 #[.agg #[.int .i64 16, .int .i64 d, .int .i64 s, .int .i64 t, .int .i64 mb, .int .i64 mi, .int .i64 ms, .int .i64 md, .int .i64 imm]] w fun e w' => RetB w.heap.size ([rexI 0 0 d, 129, bothI 4 d] ++ littleL imm 4) e w' ∧ Below w.heap.size w w' := by
  go_enter Try.func47, Try.ntmps47
  go_wp2
  obtain ⟨W, hW⟩ : ∃ W, W = w.alloc (.cells #[.int .i64 16, .int .i64 d, .int .i64 s, .int .i64 t, .int .i64 mb, .int .i64 mi, .int .i64 ms, .int .i64 md, .int .i64 imm] 35) := ⟨_, rfl⟩
  have hB : Below w.heap.size w W := by rw [hW]; exact bal (Below.refl _ _) _
  have hz : W.heap.size = w.heap.size + 1 := by rw [hW]; simp
  have f_d : W.cell? ⟨w.heap.size, 1, none⟩ = some (.int .i64 d) := by rw [hW]; go_simp
  have f_s : W.cell? ⟨w.heap.size, 2, none⟩ = some (.int .i64 s) := by rw [hW]; go_simp
  have f_t : W.cell? ⟨w.heap.size, 3, none⟩ = some (.int .i64 t) := by rw [hW]; go_simp
  have f_imm : W.cell? ⟨w.heap.size, 8, none⟩ = some (.int .i64 imm) := by rw [hW]; go_simp
  rw [← hW]
  clear hW
  have k0 : w.heap.size < W.heap.size := by omega
  have k2 : w.heap.size < W.heap.size + 1 := by omega
  go_region_held3 (fun V : World => V.cell? ⟨w.heap.size, 1, none⟩ = some (.int .i64 d) ∧ V.cell? ⟨w.heap.size, 2, none⟩ = some (.int .i64 s) ∧ V.cell? ⟨w.heap.size, 3, none⟩ = some (.int .i64 t) ∧ V.cell? ⟨w.heap.size, 8, none⟩ = some (.int .i64 imm))
    (first | exact ⟨f_d, f_s, f_t, f_imm⟩ | exact k4_below hfin k0 k0 k0 k0 ⟨f_d, f_s, f_t, f_imm⟩ | exact k4_below hfin1 k0 k0 k0 k0 ⟨f_d, f_s, f_t, f_imm⟩ | exact k4_alloc _ ⟨f_d, f_s, f_t, f_imm⟩ | exact k4_alloc _ (k4_below hfin1 k0 k0 k0 k0 ⟨f_d, f_s, f_t, f_imm⟩))
    (first | (go_at_call 76; refine (rrex_any 0 0 d _ m0 m0 hd.m).mono ?_; rintro e w' ⟨rfl, rfl⟩) | (go_at_call 79; refine (rboth_any 4 d _ (by omega) hd).mono ?_; rintro e w' ⟨rfl, rfl⟩) | (go_at_call 77; refine (rlittle_4 imm _ hn).mono ?_; rintro e w1 ⟨⟨y, rfl, hy⟩, hb1⟩; have hfin1 : Below W.heap.size W w1 := by (first | exact fin1 hb1 | exact fin2 hb1)) | (have hq := finA W _ _ hz #[.int .u8 (rexI 0 0 d), .int .u8 (129), .int .u8 (bothI 4 d)] [rexI 0 0 d, 129, bothI 4 d] (littleL imm 4) _ 3 rfl rfl (by simp) hb1 hy; refine step_appB rfl _ _ rfl rfl rfl hq.1 hq.2.1 hq.2.2.2 (by rw [littleL_length]; simp) ?_; intro v' w' hv' hb'; have hfin := hq.2.2.1.trans hb') | (have hq := finB W _ #[.int .u8 (rexI 0 0 d), .int .u8 (129), .int .u8 (bothI 4 d)] [rexI 0 0 d, 129, bothI 4 d] (littleL imm 4) _ 3 rfl rfl (by simp) hb1 hy; refine step_appB rfl _ _ rfl rfl rfl hq.1 hq.2.1 hq.2.2.2 (by rw [littleL_length]; simp) ?_; intro v' w' hv' hb'; have hfin := hq.2.2.1.trans hb'))
  all_goals (go_wp2; go_ret; exact ⟨⟨_, rfl, (hv'.mono (by omega))⟩, hB.trans (hfin.mono (by omega))⟩)
theorem rbytes_17 (d s t mb mi ms md imm : Int) (w : World) (hd : Reg d) (hn : -9223372036854775808 ≤ imm ∧ imm ≤ 9223372036854775807) :
    Calls Try.prog 47 #[.agg #[.int .i64 17, .int .i64 d, .int .i64 s, .int .i64 t, .int .i64 mb, .int .i64 mi, .int .i64 ms, .int .i64 md, .int .i64 imm]] w fun e w' => RetB w.heap.size ([rexI 0 0 d, 129, bothI 5 d] ++ littleL imm 4) e w' ∧ Below w.heap.size w w' := by
  go_enter Try.func47, Try.ntmps47
  go_wp2
  obtain ⟨W, hW⟩ : ∃ W, W = w.alloc (.cells #[.int .i64 17, .int .i64 d, .int .i64 s, .int .i64 t, .int .i64 mb, .int .i64 mi, .int .i64 ms, .int .i64 md, .int .i64 imm] 35) := ⟨_, rfl⟩
  have hB : Below w.heap.size w W := by rw [hW]; exact bal (Below.refl _ _) _
  have hz : W.heap.size = w.heap.size + 1 := by rw [hW]; simp
  have f_d : W.cell? ⟨w.heap.size, 1, none⟩ = some (.int .i64 d) := by rw [hW]; go_simp
  have f_s : W.cell? ⟨w.heap.size, 2, none⟩ = some (.int .i64 s) := by rw [hW]; go_simp
  have f_t : W.cell? ⟨w.heap.size, 3, none⟩ = some (.int .i64 t) := by rw [hW]; go_simp
  have f_imm : W.cell? ⟨w.heap.size, 8, none⟩ = some (.int .i64 imm) := by rw [hW]; go_simp
  rw [← hW]
  clear hW
  have k0 : w.heap.size < W.heap.size := by omega
  have k2 : w.heap.size < W.heap.size + 1 := by omega
  go_region_held3 (fun V : World => V.cell? ⟨w.heap.size, 1, none⟩ = some (.int .i64 d) ∧ V.cell? ⟨w.heap.size, 2, none⟩ = some (.int .i64 s) ∧ V.cell? ⟨w.heap.size, 3, none⟩ = some (.int .i64 t) ∧ V.cell? ⟨w.heap.size, 8, none⟩ = some (.int .i64 imm))
    (first | exact ⟨f_d, f_s, f_t, f_imm⟩ | exact k4_below hfin k0 k0 k0 k0 ⟨f_d, f_s, f_t, f_imm⟩ | exact k4_below hfin1 k0 k0 k0 k0 ⟨f_d, f_s, f_t, f_imm⟩ | exact k4_alloc _ ⟨f_d, f_s, f_t, f_imm⟩ | exact k4_alloc _ (k4_below hfin1 k0 k0 k0 k0 ⟨f_d, f_s, f_t, f_imm⟩))
    (first | (go_at_call 76; refine (rrex_any 0 0 d _ m0 m0 hd.m).mono ?_; rintro e w' ⟨rfl, rfl⟩) | (go_at_call 79; refine (rboth_any 5 d _ (by omega) hd).mono ?_; rintro e w' ⟨rfl, rfl⟩) | (go_at_call 77; refine (rlittle_4 imm _ hn).mono ?_; rintro e w1 ⟨⟨y, rfl, hy⟩, hb1⟩; have hfin1 : Below W.heap.size W w1 := by (first | exact fin1 hb1 | exact fin2 hb1)) | (have hq := finA W _ _ hz #[.int .u8 (rexI 0 0 d), .int .u8 (129), .int .u8 (bothI 5 d)] [rexI 0 0 d, 129, bothI 5 d] (littleL imm 4) _ 3 rfl rfl (by simp) hb1 hy; refine step_appB rfl _ _ rfl rfl rfl hq.1 hq.2.1 hq.2.2.2 (by rw [littleL_length]; simp) ?_; intro v' w' hv' hb'; have hfin := hq.2.2.1.trans hb') | (have hq := finB W _ #[.int .u8 (rexI 0 0 d), .int .u8 (129), .int .u8 (bothI 5 d)] [rexI 0 0 d, 129, bothI 5 d] (littleL imm 4) _ 3 rfl rfl (by simp) hb1 hy; refine step_appB rfl _ _ rfl rfl rfl hq.1 hq.2.1 hq.2.2.2 (by rw [littleL_length]; simp) ?_; intro v' w' hv' hb'; have hfin := hq.2.2.1.trans hb'))
  all_goals (go_wp2; go_ret; exact ⟨⟨_, rfl, (hv'.mono (by omega))⟩, hB.trans (hfin.mono (by omega))⟩)
theorem rbytes_18 (d s t mb mi ms md imm : Int) (w : World) (hd : Reg d) (hn : -9223372036854775808 ≤ imm ∧ imm ≤ 9223372036854775807) :
    Calls Try.prog 47 #[.agg #[.int .i64 18, .int .i64 d, .int .i64 s, .int .i64 t, .int .i64 mb, .int .i64 mi, .int .i64 ms, .int .i64 md, .int .i64 imm]] w fun e w' => RetB w.heap.size ([rexI 0 0 d, 129, bothI 7 d] ++ littleL imm 4) e w' ∧ Below w.heap.size w w' := by
  go_enter Try.func47, Try.ntmps47
  go_wp2
  obtain ⟨W, hW⟩ : ∃ W, W = w.alloc (.cells #[.int .i64 18, .int .i64 d, .int .i64 s, .int .i64 t, .int .i64 mb, .int .i64 mi, .int .i64 ms, .int .i64 md, .int .i64 imm] 35) := ⟨_, rfl⟩
  have hB : Below w.heap.size w W := by rw [hW]; exact bal (Below.refl _ _) _
  have hz : W.heap.size = w.heap.size + 1 := by rw [hW]; simp
  have f_d : W.cell? ⟨w.heap.size, 1, none⟩ = some (.int .i64 d) := by rw [hW]; go_simp
  have f_s : W.cell? ⟨w.heap.size, 2, none⟩ = some (.int .i64 s) := by rw [hW]; go_simp
  have f_t : W.cell? ⟨w.heap.size, 3, none⟩ = some (.int .i64 t) := by rw [hW]; go_simp
  have f_imm : W.cell? ⟨w.heap.size, 8, none⟩ = some (.int .i64 imm) := by rw [hW]; go_simp
  rw [← hW]
  clear hW
  have k0 : w.heap.size < W.heap.size := by omega
  have k2 : w.heap.size < W.heap.size + 1 := by omega
  go_region_held3 (fun V : World => V.cell? ⟨w.heap.size, 1, none⟩ = some (.int .i64 d) ∧ V.cell? ⟨w.heap.size, 2, none⟩ = some (.int .i64 s) ∧ V.cell? ⟨w.heap.size, 3, none⟩ = some (.int .i64 t) ∧ V.cell? ⟨w.heap.size, 8, none⟩ = some (.int .i64 imm))
    (first | exact ⟨f_d, f_s, f_t, f_imm⟩ | exact k4_below hfin k0 k0 k0 k0 ⟨f_d, f_s, f_t, f_imm⟩ | exact k4_below hfin1 k0 k0 k0 k0 ⟨f_d, f_s, f_t, f_imm⟩ | exact k4_alloc _ ⟨f_d, f_s, f_t, f_imm⟩ | exact k4_alloc _ (k4_below hfin1 k0 k0 k0 k0 ⟨f_d, f_s, f_t, f_imm⟩))
    (first | (go_at_call 76; refine (rrex_any 0 0 d _ m0 m0 hd.m).mono ?_; rintro e w' ⟨rfl, rfl⟩) | (go_at_call 79; refine (rboth_any 7 d _ (by omega) hd).mono ?_; rintro e w' ⟨rfl, rfl⟩) | (go_at_call 77; refine (rlittle_4 imm _ hn).mono ?_; rintro e w1 ⟨⟨y, rfl, hy⟩, hb1⟩; have hfin1 : Below W.heap.size W w1 := by (first | exact fin1 hb1 | exact fin2 hb1)) | (have hq := finA W _ _ hz #[.int .u8 (rexI 0 0 d), .int .u8 (129), .int .u8 (bothI 7 d)] [rexI 0 0 d, 129, bothI 7 d] (littleL imm 4) _ 3 rfl rfl (by simp) hb1 hy; refine step_appB rfl _ _ rfl rfl rfl hq.1 hq.2.1 hq.2.2.2 (by rw [littleL_length]; simp) ?_; intro v' w' hv' hb'; have hfin := hq.2.2.1.trans hb') | (have hq := finB W _ #[.int .u8 (rexI 0 0 d), .int .u8 (129), .int .u8 (bothI 7 d)] [rexI 0 0 d, 129, bothI 7 d] (littleL imm 4) _ 3 rfl rfl (by simp) hb1 hy; refine step_appB rfl _ _ rfl rfl rfl hq.1 hq.2.1 hq.2.2.2 (by rw [littleL_length]; simp) ?_; intro v' w' hv' hb'; have hfin := hq.2.2.1.trans hb'))
  all_goals (go_wp2; go_ret; exact ⟨⟨_, rfl, (hv'.mono (by omega))⟩, hB.trans (hfin.mono (by omega))⟩)
end Go.Proofs.Ytbcaelhchmoigaa
