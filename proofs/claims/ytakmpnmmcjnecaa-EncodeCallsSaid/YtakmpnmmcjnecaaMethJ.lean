/- The methods of encode.form (layer 6) for pushes, jumps and the return. Conditions: the registers are registers. -/
import Derived.Test.YtakmpnmmcjnecaaMethN
namespace Go.Proofs.Ytakmpnmmcjnecaa
open Go.RowKit Calm

theorem lit2' (w : World) (A B : Obj) (cs : Array Value) (bs : List Int) (n : Nat) (hn : n = bs.length) (hcs : cs.toList = bs.map (Value.int .u8)) (hl : bs.length ≤ 1000) :
    RetB w.heap.size bs (.returned (.slice (some ⟨w.heap.size + 1 + 1, 0, none⟩) n n)) (((w.alloc A).alloc B).alloc (.cells cs 5)) ∧
      Below w.heap.size w (((w.alloc A).alloc B).alloc (.cells cs 5)) := by
  refine ⟨⟨_, rfl, ?_⟩, (bal (bal (bal (Below.refl _ _) _) _) _)⟩
  have := IsB.lit ((w.alloc A).alloc B) w.heap.size bs n hn cs hcs (by simp; omega) hl
  simp only [World.size_alloc] at this
  exact this
theorem mret_any (c m op d s t mb mi ms md imm : Int) (w : World) :
    Calls Try.prog 60 #[.agg #[.int .u8 c, .int .u8 m], .agg #[.int .i64 op, .int .i64 d, .int .i64 s, .int .i64 t, .int .i64 mb, .int .i64 mi, .int .i64 ms, .int .i64 md, .int .i64 imm]] w
      fun e w' => RetB w.heap.size [c] e w' ∧ Below w.heap.size w w' := by
  go_enter Try.func60, Try.ntmps60
  go_wp2
  go_ret
  exact lit2' w _ _ _ [c] _ rfl rfl (by simp)
theorem hiR_z : hiR 0 = 0 := by decide
attribute [local irreducible] placeL loR hiR rexI bothI littleL
set_option maxHeartbeats 2000000 in
set_option maxRecDepth 100000 in
theorem mstack_s0 (c m op d s t mb mi ms md imm : Int) (w : World) (hr1 : 1 ≤ s ∧ s ≤ 15) (ho : d = 0) (hc : 0 ≤ c ∧ c ≤ 200) (h1 : hiR s = 0) :
    Calls Try.prog 58 #[.agg #[.int .u8 c, .int .u8 m], .agg #[.int .i64 op, .int .i64 d, .int .i64 s, .int .i64 t, .int .i64 mb, .int .i64 mi, .int .i64 ms, .int .i64 md, .int .i64 imm]] w
      fun e w' => RetB w.heap.size [c + loR s] e w' ∧ Below w.heap.size w w' := by
  have hcw := code_low c s hc
  have hlt : d < s := by omega
  have hr : 0 ≤ s ∧ s ≤ 15 := by omega
  have hm1 : -1 ≤ s ∧ s ≤ 15 := by omega
  have e1 : (hiR s == 1) = false := by simp [h1]
  go_enter Try.func58, Try.ntmps58
  go_wp2_with (go_at_call 84; refine (high_any _ _ (by assumption)).mono ?_; rintro e w' ⟨rfl, rfl⟩)
  refine still_tail 4 (by kernel_rfl) (by kernel_rfl) ?_; simp only [List.take_succ_cons, List.take_zero, List.drop_succ_cons, List.drop_zero]
  repeat (first | still_step | still_call (low_same _ _ hr))
  refine wpStill_nil ?_; go_wp2; go_ret; exact lit2 w _ _ _ [c + loR s] _ rfl rfl (by simp)
set_option maxHeartbeats 2000000 in
set_option maxRecDepth 100000 in
theorem mstack_s1 (c m op d s t mb mi ms md imm : Int) (w : World) (hr1 : 1 ≤ s ∧ s ≤ 15) (ho : d = 0) (hc : 0 ≤ c ∧ c ≤ 200) (h1 : hiR s = 1) :
    Calls Try.prog 58 #[.agg #[.int .u8 c, .int .u8 m], .agg #[.int .i64 op, .int .i64 d, .int .i64 s, .int .i64 t, .int .i64 mb, .int .i64 mi, .int .i64 ms, .int .i64 md, .int .i64 imm]] w
      fun e w' => RetB w.heap.size [65, c + loR s] e w' ∧ Below w.heap.size w w' := by
  have hcw := code_low c s hc
  have hlt : d < s := by omega
  have hr : 0 ≤ s ∧ s ≤ 15 := by omega
  have hm1 : -1 ≤ s ∧ s ≤ 15 := by omega
  have e1 : (hiR s == 1) = true := by simp [h1]
  go_enter Try.func58, Try.ntmps58
  go_wp2_with (go_at_call 84; refine (high_any _ _ (by assumption)).mono ?_; rintro e w' ⟨rfl, rfl⟩)
  refine still_tail 5 (by kernel_rfl) (by kernel_rfl) ?_; simp only [List.take_succ_cons, List.take_zero, List.drop_succ_cons, List.drop_zero]
  repeat (first | still_step | still_call (low_same _ _ hr))
  refine wpStill_nil ?_; go_wp2; go_ret; exact lit2 w _ _ _ [65, c + loR s] _ rfl rfl (by simp)
set_option maxHeartbeats 2000000 in
set_option maxRecDepth 100000 in
theorem mstack_d0 (c m op d s t mb mi ms md imm : Int) (w : World) (hr1 : 1 ≤ d ∧ d ≤ 15) (ho : s = 0) (hc : 0 ≤ c ∧ c ≤ 200) (h1 : hiR d = 0) :
    Calls Try.prog 58 #[.agg #[.int .u8 c, .int .u8 m], .agg #[.int .i64 op, .int .i64 d, .int .i64 s, .int .i64 t, .int .i64 mb, .int .i64 mi, .int .i64 ms, .int .i64 md, .int .i64 imm]] w
      fun e w' => RetB w.heap.size [c + loR d] e w' ∧ Below w.heap.size w w' := by
  have hcw := code_low c d hc
  have hlt : s < d := by omega
  have hr : 0 ≤ d ∧ d ≤ 15 := by omega
  have hm1 : -1 ≤ d ∧ d ≤ 15 := by omega
  have e1 : (hiR d == 1) = false := by simp [h1]
  go_enter Try.func58, Try.ntmps58
  go_wp2_with (go_at_call 84; refine (high_any _ _ (by assumption)).mono ?_; rintro e w' ⟨rfl, rfl⟩)
  refine still_tail 4 (by kernel_rfl) (by kernel_rfl) ?_; simp only [List.take_succ_cons, List.take_zero, List.drop_succ_cons, List.drop_zero]
  repeat (first | still_step | still_call (low_same _ _ hr))
  refine wpStill_nil ?_; go_wp2; go_ret; exact lit2 w _ _ _ [c + loR d] _ rfl rfl (by simp)
set_option maxHeartbeats 2000000 in
set_option maxRecDepth 100000 in
theorem mstack_d1 (c m op d s t mb mi ms md imm : Int) (w : World) (hr1 : 1 ≤ d ∧ d ≤ 15) (ho : s = 0) (hc : 0 ≤ c ∧ c ≤ 200) (h1 : hiR d = 1) :
    Calls Try.prog 58 #[.agg #[.int .u8 c, .int .u8 m], .agg #[.int .i64 op, .int .i64 d, .int .i64 s, .int .i64 t, .int .i64 mb, .int .i64 mi, .int .i64 ms, .int .i64 md, .int .i64 imm]] w
      fun e w' => RetB w.heap.size [65, c + loR d] e w' ∧ Below w.heap.size w w' := by
  have hcw := code_low c d hc
  have hlt : s < d := by omega
  have hr : 0 ≤ d ∧ d ≤ 15 := by omega
  have hm1 : -1 ≤ d ∧ d ≤ 15 := by omega
  have e1 : (hiR d == 1) = true := by simp [h1]
  go_enter Try.func58, Try.ntmps58
  go_wp2_with (go_at_call 84; refine (high_any _ _ (by assumption)).mono ?_; rintro e w' ⟨rfl, rfl⟩)
  refine still_tail 5 (by kernel_rfl) (by kernel_rfl) ?_; simp only [List.take_succ_cons, List.take_zero, List.drop_succ_cons, List.drop_zero]
  repeat (first | still_step | still_call (low_same _ _ hr))
  refine wpStill_nil ?_; go_wp2; go_ret; exact lit2 w _ _ _ [65, c + loR d] _ rfl rfl (by simp)
set_option maxHeartbeats 2000000 in
set_option maxRecDepth 100000 in
theorem mstack_z (c m op t mb mi ms md imm : Int) (w : World) (hc : 0 ≤ c ∧ c ≤ 200) :
    Calls Try.prog 58 #[.agg #[.int .u8 c, .int .u8 m], .agg #[.int .i64 op, .int .i64 0, .int .i64 0, .int .i64 t, .int .i64 mb, .int .i64 mi, .int .i64 ms, .int .i64 md, .int .i64 imm]] w
      fun e w' => RetB w.heap.size [c + loR 0] e w' ∧ Below w.heap.size w w' := by
  have hcw := code_low c 0 hc
  have e1 : (hiR 0 == 1) = false := by rw [hiR_z]; rfl
  have hm1 : -1 ≤ (0 : Int) ∧ (0 : Int) ≤ 15 := by omega
  go_enter Try.func58, Try.ntmps58
  go_wp2_with (go_at_call 84; refine (high_any _ _ (by assumption)).mono ?_; rintro e w' ⟨rfl, rfl⟩)
  refine still_tail 4 (by kernel_rfl) (by kernel_rfl) ?_; simp only [List.take_succ_cons, List.take_zero, List.drop_succ_cons, List.drop_zero]
  repeat (first | still_step | still_call (low_same _ _ (by omega)))
  refine wpStill_nil ?_; go_wp2; go_ret; exact lit2 w _ _ _ [c + loR 0] _ rfl rfl (by simp)
def stackL (c r : Int) : List Int := if hiR r = 1 then [65, c + loR r] else [c + loR r]
theorem stackL_z (c : Int) : stackL c 0 = [c + loR 0] := by unfold stackL; rw [if_neg (by rw [hiR_z]; decide)]
theorem mstackS_any (c m op d s t mb mi ms md imm : Int) (w : World) (hr : Reg s) (ho : d = 0) (hc : 0 ≤ c ∧ c ≤ 200) :
    Calls Try.prog 58 #[.agg #[.int .u8 c, .int .u8 m], .agg #[.int .i64 op, .int .i64 d, .int .i64 s, .int .i64 t, .int .i64 mb, .int .i64 mi, .int .i64 ms, .int .i64 md, .int .i64 imm]] w
      fun e w' => RetB w.heap.size (stackL c s) e w' ∧ Below w.heap.size w w' := by
  by_cases h0 : s = 0
  · subst h0 ho; rw [stackL_z]; exact mstack_z c m op t mb mi ms md imm w hc
  · have hr1 : 1 ≤ s ∧ s ≤ 15 := by unfold Reg at hr; omega
    unfold stackL
    rcases hiR_01 s with h | h
    · rw [if_neg (by omega)]; exact mstack_s0 c m op d s t mb mi ms md imm w hr1 ho hc h
    · rw [if_pos h]; exact mstack_s1 c m op d s t mb mi ms md imm w hr1 ho hc h
theorem mstackD_any (c m op d s t mb mi ms md imm : Int) (w : World) (hr : Reg d) (ho : s = 0) (hc : 0 ≤ c ∧ c ≤ 200) :
    Calls Try.prog 58 #[.agg #[.int .u8 c, .int .u8 m], .agg #[.int .i64 op, .int .i64 d, .int .i64 s, .int .i64 t, .int .i64 mb, .int .i64 mi, .int .i64 ms, .int .i64 md, .int .i64 imm]] w
      fun e w' => RetB w.heap.size (stackL c d) e w' ∧ Below w.heap.size w w' := by
  by_cases h0 : d = 0
  · subst h0 ho; rw [stackL_z]; exact mstack_z c m op t mb mi ms md imm w hc
  · have hr1 : 1 ≤ d ∧ d ≤ 15 := by unfold Reg at hr; omega
    unfold stackL
    rcases hiR_01 d with h | h
    · rw [if_neg (by omega)]; exact mstack_d0 c m op d s t mb mi ms md imm w hr1 ho hc h
    · rw [if_pos h]; exact mstack_d1 c m op d s t mb mi ms md imm w hr1 ho hc h
set_option maxHeartbeats 2000000 in
set_option maxRecDepth 100000 in
theorem mjump_0 (c m op d s t mb mi ms md imm : Int) (w : World) (hn : -9223372036854775808 ≤ imm ∧ imm ≤ 9223372036854775807) (h0 : (m != 0) = false) :
    Calls Try.prog 59 #[.agg #[.int .u8 c, .int .u8 m], .agg #[.int .i64 op, .int .i64 d, .int .i64 s, .int .i64 t, .int .i64 mb, .int .i64 mi, .int .i64 ms, .int .i64 md, .int .i64 imm]] w
      fun e w' => RetB w.heap.size ([c] ++ littleL imm 4) e w' ∧ Below w.heap.size w w' := by
  go_enter Try.func59, Try.ntmps59
  go_wp2_with (fail)
  go_at_call 82
  refine (little_any imm 4 _ (by decide) hn).mono ?_
  rintro e w1 ⟨⟨y, rfl, hy⟩, hb1⟩
  obtain ⟨hL, hB0⟩ := lit2' w (Obj.cells #[Value.int IntKind.u8 c, Value.int IntKind.u8 m] 63) (Obj.cells #[.int .i64 op, .int .i64 d, .int .i64 s, .int .i64 t, .int .i64 mb, .int .i64 mi, .int .i64 ms, .int .i64 md, .int .i64 imm] 25) #[.int .u8 c] [c] 1 rfl rfl (by simp)
  obtain ⟨v0, hv0, hL0⟩ := hL
  cases hv0
  have hL1 := hL0.later hb1
  have hB : Below w.heap.size w w1 := hB0.trans (hb1.mono (by simp; omega))
  have hz2 := hB.size
  have hle : w.heap.size ≤ (((w.alloc (Obj.cells #[Value.int IntKind.u8 c, Value.int IntKind.u8 m] 63)).alloc (Obj.cells #[.int .i64 op, .int .i64 d, .int .i64 s, .int .i64 t, .int .i64 mb, .int .i64 mi, .int .i64 ms, .int .i64 md, .int .i64 imm] 25)).alloc (.cells #[.int .u8 c] 5)).heap.size := by simp; omega
  have hy1 := hy.mono hle
  clear hL0 hb1 hB0 hy hle
  go_wp2_with (at_builtin; refine wpList_appB (xs := [c]) (bs := littleL imm 4) (B := w.heap.size) rfl _ _ rfl rfl rfl hL1 hy1 hz2 (by rw [littleL_length]; simp) ?_; intro v' w' hB' hb')
  go_ret
  exact ⟨⟨_, rfl, hB'⟩, hB.trans hb'⟩
theorem jump_lit (w : World) (A : Obj) (c m op d s t mb mi ms md imm : Int) :
    IsB ((((w.alloc A).alloc (Obj.cells #[.int .i64 op, .int .i64 d, .int .i64 s, .int .i64 t, .int .i64 mb, .int .i64 mi, .int .i64 ms, .int .i64 md, .int .i64 imm] 25)).alloc (.cells #[.int .u8 c] 5)).alloc (.cells #[.int .u8 m] 5)) (w.heap.size + 2) (.slice (some ⟨w.heap.size + 1 + 1, 0, none⟩) 1 1) [c] ∧
    IsB ((((w.alloc A).alloc (Obj.cells #[.int .i64 op, .int .i64 d, .int .i64 s, .int .i64 t, .int .i64 mb, .int .i64 mi, .int .i64 ms, .int .i64 md, .int .i64 imm] 25)).alloc (.cells #[.int .u8 c] 5)).alloc (.cells #[.int .u8 m] 5)) (w.heap.size + 2) (.slice (some ⟨w.heap.size + 1 + 1 + 1, 0, none⟩) 1 1) [m] ∧
    ∀ w2, Below (w.heap.size + 2) ((((w.alloc A).alloc (Obj.cells #[.int .i64 op, .int .i64 d, .int .i64 s, .int .i64 t, .int .i64 mb, .int .i64 mi, .int .i64 ms, .int .i64 md, .int .i64 imm] 25)).alloc (.cells #[.int .u8 c] 5)).alloc (.cells #[.int .u8 m] 5)) w2 →
      Below w.heap.size w w2 ∧ w2.cell? { block := w.heap.size + 1, off := 8 } = some (.int .i64 imm) ∧ w.heap.size + 2 ≤ w2.heap.size := by
  obtain ⟨W, hW⟩ : ∃ W, W = ((w.alloc A).alloc (Obj.cells #[.int .i64 op, .int .i64 d, .int .i64 s, .int .i64 t, .int .i64 mb, .int .i64 mi, .int .i64 ms, .int .i64 md, .int .i64 imm] 25)) := ⟨_, rfl⟩
  have hWz : W.heap.size = w.heap.size + 2 := by rw [hW]; simp
  have hWc : W.cell? { block := w.heap.size + 1, off := 8 } = some (.int .i64 imm) := by
    rw [hW]
    have := World.cell?_alloc_new (w.alloc A) #[.int .i64 op, .int .i64 d, .int .i64 s, .int .i64 t, .int .i64 mb, .int .i64 mi, .int .i64 ms, .int .i64 md, .int .i64 imm] 25
    simp only [World.size_alloc] at this
    exact this 8
  have hWb : Below w.heap.size w W := by rw [hW]; exact bal (bal (Below.refl _ _) _) _
  rw [← hW]
  have h1 := (IsB.lit W W.heap.size [c] 1 rfl #[.int .u8 c] rfl (Nat.le_refl _) (by simp)).alloc (.cells #[.int .u8 m] 5)
  have h2 := (IsB.lit (W.alloc (.cells #[.int .u8 c] 5)) W.heap.size [m] 1 rfl #[.int .u8 m] rfl (by simp) (by simp))
  have hBw : Below W.heap.size W ((W.alloc (.cells #[.int .u8 c] 5)).alloc (.cells #[.int .u8 m] 5)) := bal (bal (Below.refl _ _) _) _
  rw [World.size_alloc] at h2
  rw [hWz] at h1 h2 hBw
  refine ⟨h1, h2, fun w2 hb2 => ?_⟩
  have hb3 := hBw.trans hb2
  exact ⟨hWb.trans (hb3.mono (by omega)), cellk hb3 (by simp) hWc, by have := hb3.size; omega⟩
set_option maxHeartbeats 2000000 in
set_option maxRecDepth 100000 in
theorem mjump_1 (c m op d s t mb mi ms md imm : Int) (w : World) (hn : -9223372036854775808 ≤ imm ∧ imm ≤ 9223372036854775807) (h0 : (m != 0) = true) :
    Calls Try.prog 59 #[.agg #[.int .u8 c, .int .u8 m], .agg #[.int .i64 op, .int .i64 d, .int .i64 s, .int .i64 t, .int .i64 mb, .int .i64 mi, .int .i64 ms, .int .i64 md, .int .i64 imm]] w
      fun e w' => RetB w.heap.size ([c, m] ++ littleL imm 4) e w' ∧ Below w.heap.size w w' := by
  have hJ := jump_lit w (Obj.cells #[Value.int IntKind.u8 c, Value.int IntKind.u8 m] 63) c m op d s t mb mi ms md imm
  go_enter Try.func59, Try.ntmps59
  go_wp2_with (first | (go_at_call 82; refine (little_any imm 4 _ (by decide) hn).mono ?_; rintro e w1 ⟨⟨y, rfl, hy⟩, hb1⟩; have hv3 := hv2.later hb1; have hy1 := hy.mono hz2; have hb4 := hbw.trans (hb1.mono (by omega)); have hz3 := Nat.le_trans hz2 hb1.size) | (at_builtin; refine wpList_appB (xs := [c, m]) (bs := littleL imm 4) (B := w.heap.size + 2) rfl _ _ rfl rfl rfl hv3 hy1 hz3 (by rw [littleL_length]; simp) ?_; intro v' w' hB' hb') | (at_builtin; refine wpList_appB (xs := [c]) (bs := [m]) (B := w.heap.size + 2) rfl _ _ rfl rfl rfl hJ.1 hJ.2.1 (by simp) (by simp) ?_; intro v2 w2 hv2 hb2; obtain ⟨hbw, hc, hz2⟩ := hJ.2.2 w2 hb2; clear hJ hb2))
  go_ret
  exact ⟨⟨_, rfl, hB'.mono (by omega)⟩, hb4.trans (hb'.mono (by omega))⟩
def jumpL (c m imm : Int) : List Int := if m = 0 then c :: littleL imm 4 else c :: m :: littleL imm 4
theorem mjump_any (c m op d s t mb mi ms md imm : Int) (w : World) (hn : -9223372036854775808 ≤ imm ∧ imm ≤ 9223372036854775807) :
    Calls Try.prog 59 #[.agg #[.int .u8 c, .int .u8 m], .agg #[.int .i64 op, .int .i64 d, .int .i64 s, .int .i64 t, .int .i64 mb, .int .i64 mi, .int .i64 ms, .int .i64 md, .int .i64 imm]] w
      fun e w' => RetB w.heap.size (jumpL c m imm) e w' ∧ Below w.heap.size w w' := by
  unfold jumpL
  by_cases h : m = 0
  · rw [if_pos h]; exact mjump_0 c m op d s t mb mi ms md imm w hn (by simp [h])
  · rw [if_neg h]; exact mjump_1 c m op d s t mb mi ms md imm w hn (by simp [h])
end Go.Proofs.Ytakmpnmmcjnecaa
