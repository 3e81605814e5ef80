/- The methods of encode.form (layer 6) that put a few bytes. Conditions: the registers are registers. -/
import Derived.Test.YtakmpnmmcjnecaaPlace
namespace Go.Proofs.Ytakmpnmmcjnecaa
open Go.RowKit Calm

theorem rex_same (mid x last : Int) (w : World) (h1 : -1 ≤ mid ∧ mid ≤ 15) (h2 : -1 ≤ x ∧ x ≤ 15) (h3 : -1 ≤ last ∧ last ≤ 15) :
    Calls Try.prog 79 #[.int .i64 mid, .int .i64 x, .int .i64 last] w fun e w' => e = .returned (.int .u8 (rexI mid x last)) ∧ w' = w :=
  (rex_any mid x last w h1 h2 h3).mono fun _ _ ⟨a, b⟩ => ⟨a, b.symm⟩
theorem both_same (mid last : Int) (w : World) (h1 : 0 ≤ mid ∧ mid ≤ 15) (h3 : 0 ≤ last ∧ last ≤ 15) :
    Calls Try.prog 80 #[.int .i64 mid, .int .i64 last] w fun e w' => e = .returned (.int .u8 (bothI mid last)) ∧ w' = w :=
  (both_any mid last w h1 h3).mono fun _ _ ⟨a, b⟩ => ⟨a, b.symm⟩
theorem wrap_reg (m : Int) (h : 0 ≤ m ∧ m ≤ 15) : IntKind.i64.wrap m = m := by
  have : m = 0 ∨ m = 1 ∨ m = 2 ∨ m = 3 ∨ m = 4 ∨ m = 5 ∨ m = 6 ∨ m = 7 ∨ m = 8 ∨ m = 9 ∨ m = 10 ∨ m = 11 ∨ m = 12 ∨ m = 13 ∨ m = 14 ∨ m = 15 := by omega
  rcases this with rfl | rfl | rfl | rfl | rfl | rfl | rfl | rfl | rfl | rfl | rfl | rfl | rfl | rfl | rfl | rfl <;> decide +kernel
theorem both_wrap (mid last : Int) (w : World) (h1 : 0 ≤ mid ∧ mid ≤ 15) (h3 : 0 ≤ last ∧ last ≤ 15) :
    Calls Try.prog 80 #[.int .i64 (IntKind.i64.wrap mid), .int .i64 last] w fun e w' => e = .returned (.int .u8 (bothI mid last)) ∧ w' = w := by
  rw [wrap_reg mid h1]; exact both_same mid last w h1 h3
theorem high_same (r : Int) (w : World) (h : -1 ≤ r ∧ r ≤ 15) : Calls Try.prog 84 #[.int .i64 r] w fun e w' => e = .returned (.int .u8 (hiR r)) ∧ w' = w :=
  (high_any r w h).mono fun _ _ ⟨a, b⟩ => ⟨a, b.symm⟩
def Reg (r : Int) : Prop := 0 ≤ r ∧ r ≤ 15
theorem Reg.m {r : Int} (h : Reg r) : -1 ≤ r ∧ r ≤ 15 := by unfold Reg at h; omega
theorem m0 : (-1 : Int) ≤ 0 ∧ (0 : Int) ≤ 15 := by omega
theorem lit2 (w : World) (A B : Obj) (cs : Array Value) (bs : List Int) (n : Nat) (hn : n = bs.length) (hcs : cs.toList = bs.map (Value.int .u8)) (hl : bs.length ≤ 1000) :
    RetB w.heap.size bs (.returned (.slice (some ⟨w.heap.size + 1 + 1, 0, none⟩) n n)) (((w.alloc A).alloc B).alloc (.cells cs 5)).drew ∧
      Below w.heap.size w (((w.alloc A).alloc B).alloc (.cells cs 5)).drew := by
  refine ⟨⟨_, rfl, ?_⟩, below_dr (bal (bal (bal (Below.refl _ _) _) _) _)⟩
  have := IsB.lit ((w.alloc A).alloc B) w.heap.size bs n hn cs hcs (by simp; omega) hl
  simp only [World.size_alloc] at this
  exact this
def mulx1 (d t : Int) : Int := 66 + 128 * (1 - hiR d) + 32 * (1 - hiR t)
def mulx2 (s : Int) : Int := 131 + 8 * (15 - s)
theorem mulx1_form (d t : Int) : bits BinOp.or IntKind.u8 (bits BinOp.or IntKind.u8 66 ((1 - hiR d) % 256 * 128 % 256)) ((1 - hiR t) % 256 * 32 % 256) = mulx1 d t := by
  unfold mulx1
  rcases hiR_01 d with h1 | h1 <;> rcases hiR_01 t with h2 | h2 <;> rw [h1, h2] <;> decide +kernel
theorem mulx2_form (s : Int) (h : 0 ≤ s ∧ s ≤ 15) : bits BinOp.or IntKind.u8 131 (wrap64 (15 - s) % 256 * 8 % 256) = mulx2 s := by
  unfold mulx2
  have : s = 0 ∨ s = 1 ∨ s = 2 ∨ s = 3 ∨ s = 4 ∨ s = 5 ∨ s = 6 ∨ s = 7 ∨ s = 8 ∨ s = 9 ∨ s = 10 ∨ s = 11 ∨ s = 12 ∨ s = 13 ∨ s = 14 ∨ s = 15 := by omega
  rcases this with rfl | rfl | rfl | rfl | rfl | rfl | rfl | rfl | rfl | rfl | rfl | rfl | rfl | rfl | rfl | rfl <;> decide +kernel
attribute [local irreducible] loR hiR rexI bothI
set_option maxHeartbeats 2000000 in
set_option maxRecDepth 100000 in
theorem two_any (c m op d s t mb mi ms md imm : Int) (w : World) (hd : Reg d) (hs : Reg s) :
    Calls Try.prog 48 #[.agg #[.int .u8 c, .int .u8 m], .agg #[.int .i64 op, .int .i64 d, .int .i64 s, .int .i64 t, .int .i64 mb, .int .i64 mi, .int .i64 ms, .int .i64 md, .int .i64 imm]] w
      fun e w' => RetB w.heap.size [rexI s 0 d, c, bothI s d] e w' ∧ Below w.heap.size w w' := by
  go_enter Try.func48, Try.ntmps48
  go_wp2
  refine still_tail 12 (by kernel_rfl) (by kernel_rfl) ?_
  simp only [List.take_succ_cons, List.take_zero, List.drop_succ_cons, List.drop_zero]
  repeat (first | still_step | still_call (rex_same _ _ _ _ hs.m m0 hd.m) | still_call (both_same _ _ _ hs hd))
  refine wpStill_nil ?_
  go_wp2
  go_ret
  exact lit2 w _ _ _ [rexI s 0 d, c, bothI s d] _ rfl rfl (by simp)
set_option maxHeartbeats 2000000 in
set_option maxRecDepth 100000 in
theorem one_any (c m op d s t mb mi ms md imm : Int) (w : World) (hd : Reg d) (hm : 0 ≤ m ∧ m ≤ 15) :
    Calls Try.prog 55 #[.agg #[.int .u8 c, .int .u8 m], .agg #[.int .i64 op, .int .i64 d, .int .i64 s, .int .i64 t, .int .i64 mb, .int .i64 mi, .int .i64 ms, .int .i64 md, .int .i64 imm]] w
      fun e w' => RetB w.heap.size [rexI 0 0 d, c, bothI m d] e w' ∧ Below w.heap.size w w' := by
  go_enter Try.func55, Try.ntmps55
  go_wp2
  refine still_tail 11 (by kernel_rfl) (by kernel_rfl) ?_
  simp only [List.take_succ_cons, List.take_zero, List.drop_succ_cons, List.drop_zero]
  repeat (first | still_step | still_call (rex_same _ _ _ _ m0 m0 hd.m) | still_call (both_wrap _ _ _ hm hd))
  refine wpStill_nil ?_
  go_wp2
  go_ret
  exact lit2 w _ _ _ [rexI 0 0 d, c, bothI m d] _ rfl rfl (by simp)
set_option maxHeartbeats 2000000 in
set_option maxRecDepth 100000 in
theorem chain_any (c m op d s t mb mi ms md imm : Int) (w : World) (hd : Reg d) (hs : Reg s) :
    Calls Try.prog 54 #[.agg #[.int .u8 c, .int .u8 m], .agg #[.int .i64 op, .int .i64 d, .int .i64 s, .int .i64 t, .int .i64 mb, .int .i64 mi, .int .i64 ms, .int .i64 md, .int .i64 imm]] w
      fun e w' => RetB w.heap.size [c, rexI d 0 s, 15, 56, m, bothI d s] e w' ∧ Below w.heap.size w w' := by
  go_enter Try.func54, Try.ntmps54
  go_wp2
  refine still_tail 14 (by kernel_rfl) (by kernel_rfl) ?_
  simp only [List.take_succ_cons, List.take_zero, List.drop_succ_cons, List.drop_zero]
  repeat (first | still_step | still_call (rex_same _ _ _ _ hd.m m0 hs.m) | still_call (both_same _ _ _ hd hs))
  refine wpStill_nil ?_
  go_wp2
  go_ret
  exact lit2 w _ _ _ [c, rexI d 0 s, 15, 56, m, bothI d s] _ rfl rfl (by simp)
set_option maxHeartbeats 2000000 in
set_option maxRecDepth 100000 in
theorem move_any (c m op d s t mb mi ms md imm : Int) (w : World) (hd : Reg d) (hs : Reg s) :
    Calls Try.prog 57 #[.agg #[.int .u8 c, .int .u8 m], .agg #[.int .i64 op, .int .i64 d, .int .i64 s, .int .i64 t, .int .i64 mb, .int .i64 mi, .int .i64 ms, .int .i64 md, .int .i64 imm]] w
      fun e w' => RetB w.heap.size [rexI d 0 s, c, m, bothI d s] e w' ∧ Below w.heap.size w w' := by
  go_enter Try.func57, Try.ntmps57
  go_wp2
  refine still_tail 14 (by kernel_rfl) (by kernel_rfl) ?_
  simp only [List.take_succ_cons, List.take_zero, List.drop_succ_cons, List.drop_zero]
  repeat (first | still_step | still_call (rex_same _ _ _ _ hd.m m0 hs.m) | still_call (both_same _ _ _ hd hs))
  refine wpStill_nil ?_
  go_wp2
  go_ret
  exact lit2 w _ _ _ [rexI d 0 s, c, m, bothI d s] _ rfl rfl (by simp)
set_option maxHeartbeats 2000000 in
set_option maxRecDepth 100000 in
theorem mulx_any (c m op d s t mb mi ms md imm : Int) (w : World) (hd : Reg d) (ht : Reg t) (hs : Reg s) :
    Calls Try.prog 53 #[.agg #[.int .u8 c, .int .u8 m], .agg #[.int .i64 op, .int .i64 d, .int .i64 s, .int .i64 t, .int .i64 mb, .int .i64 mi, .int .i64 ms, .int .i64 md, .int .i64 imm]] w
      fun e w' => RetB w.heap.size [c, mulx1 d t, mulx2 s, m, bothI d t] e w' ∧ Below w.heap.size w w' := by
  go_enter Try.func53, Try.ntmps53
  go_wp2
  refine still_tail 27 (by kernel_rfl) (by kernel_rfl) ?_
  simp only [List.take_succ_cons, List.take_zero, List.drop_succ_cons, List.drop_zero]
  repeat (first | still_step | still_call (high_same _ _ hd.m) | still_call (high_same _ _ ht.m) | still_call (both_same _ _ _ hd ht))
  refine wpStill_nil ?_
  go_wp2
  go_ret
  rw [mulx1_form, mulx2_form _ hs]
  exact lit2 w _ _ _ [c, mulx1 d t, mulx2 s, m, bothI d t] _ rfl rfl (by simp)
end Go.Proofs.Ytakmpnmmcjnecaa
