import Derived.Test.YtbcaelhchmoigaaMB
set_option maxHeartbeats 4000000
set_option maxRecDepth 100000
set_option linter.unusedVariables false
set_option linter.unusedSimpArgs false
namespace Go.Proofs.Ytbcaelhchmoigaa
open Go.RowKit Calm
theorem rex_same (mid x last : Int) (w : World) (h1 : -1 ≤ mid ∧ mid ≤ 15) (h2 : -1 ≤ x ∧ x ≤ 15) (h3 : -1 ≤ last ∧ last ≤ 15) :
    Calls Try.prog 86 #[.int .i64 mid, .int .i64 x, .int .i64 last] w fun e w' => e = .returned (.int .u8 (rexI mid x last)) ∧ w' = w :=
  (rex_any mid x last w h1 h2 h3).mono fun _ _ ⟨a, b⟩ => ⟨a, b.symm⟩
theorem both_same (mid last : Int) (w : World) (h1 : 0 ≤ mid ∧ mid ≤ 15) (h3 : 0 ≤ last ∧ last ≤ 15) :
    Calls Try.prog 87 #[.int .i64 mid, .int .i64 last] w fun e w' => e = .returned (.int .u8 (bothI mid last)) ∧ w' = w :=
  (both_any mid last w h1 h3).mono fun _ _ ⟨a, b⟩ => ⟨a, b.symm⟩
theorem wrap_reg (m : Int) (h : 0 ≤ m ∧ m ≤ 15) : IntKind.i64.wrap m = m := by
  have : m = 0 ∨ m = 1 ∨ m = 2 ∨ m = 3 ∨ m = 4 ∨ m = 5 ∨ m = 6 ∨ m = 7 ∨ m = 8 ∨ m = 9 ∨ m = 10 ∨ m = 11 ∨ m = 12 ∨ m = 13 ∨ m = 14 ∨ m = 15 := by omega
  rcases this with rfl | rfl | rfl | rfl | rfl | rfl | rfl | rfl | rfl | rfl | rfl | rfl | rfl | rfl | rfl | rfl <;> decide +kernel
theorem both_wrap (mid last : Int) (w : World) (h1 : 0 ≤ mid ∧ mid ≤ 15) (h3 : 0 ≤ last ∧ last ≤ 15) :
    Calls Try.prog 87 #[.int .i64 (IntKind.i64.wrap mid), .int .i64 last] w fun e w' => e = .returned (.int .u8 (bothI mid last)) ∧ w' = w := by
  rw [wrap_reg mid h1]; exact both_same mid last w h1 h3
theorem high_same (r : Int) (w : World) (h : -1 ≤ r ∧ r ≤ 15) : Calls Try.prog 91 #[.int .i64 r] w fun e w' => e = .returned (.int .u8 (hiR r)) ∧ w' = w :=
  (high_any r w h).mono fun _ _ ⟨a, b⟩ => ⟨a, b.symm⟩
def Reg (r : Int) : Prop := 0 ≤ r ∧ r ≤ 15
theorem Reg.m {r : Int} (h : Reg r) : -1 ≤ r ∧ r ≤ 15 := by unfold Reg at h; omega
theorem m0 : (-1 : Int) ≤ 0 ∧ (0 : Int) ≤ 15 := by omega
theorem lit2 (w : World) (A B : Obj) (cs : Array Value) (bs : List Int) (n : Nat) (hn : n = bs.length) (hcs : cs.toList = bs.map (Value.int .u8)) (hl : bs.length ≤ 1000) :
    RetB w.heap.size bs (.returned (.slice (some ⟨w.heap.size + 1 + 1, 0, none⟩) n n)) (((w.alloc A).alloc B).alloc (.cells cs 5)).drew ∧
      Below w.heap.size w (((w.alloc A).alloc B).alloc (.cells cs 5)).drew := by
  refine ⟨⟨_, rfl, ?_⟩, below_dr (bal (bal (bal (Below.refl _ _) _) _) _)⟩
  have := IsB.lit ((w.alloc A).alloc B) w.heap.size bs n hn cs hcs (by simp; omega) hl
  simp only [World.size_alloc] at this
  exact this
def mulx1 (d t : Int) : Int := 66 + 128 * (1 - hiR d) + 32 * (1 - hiR t)
def mulx2 (s : Int) : Int := 131 + 8 * (15 - s)
theorem mulx1_form (d t : Int) : bits BinOp.or IntKind.u8 (bits BinOp.or IntKind.u8 66 ((1 - hiR d) % 256 * 128 % 256)) ((1 - hiR t) % 256 * 32 % 256) = mulx1 d t := by
  unfold mulx1
  rcases hiR_01 d with h1 | h1 <;> rcases hiR_01 t with h2 | h2 <;> rw [h1, h2] <;> decide +kernel
theorem mulx2_form (s : Int) (h : 0 ≤ s ∧ s ≤ 15) : bits BinOp.or IntKind.u8 131 (wrap64 (15 - s) % 256 * 8 % 256) = mulx2 s := by
  unfold mulx2
  have : s = 0 ∨ s = 1 ∨ s = 2 ∨ s = 3 ∨ s = 4 ∨ s = 5 ∨ s = 6 ∨ s = 7 ∨ s = 8 ∨ s = 9 ∨ s = 10 ∨ s = 11 ∨ s = 12 ∨ s = 13 ∨ s = 14 ∨ s = 15 := by omega
  rcases this with rfl | rfl | rfl | rfl | rfl | rfl | rfl | rfl | rfl | rfl | rfl | rfl | rfl | rfl | rfl | rfl <;> decide +kernel
attribute [local irreducible] loR hiR rexI bothI
theorem two_any (c m op d s t mb mi ms md imm : Int) (w : World) (hd : Reg d) (hs : Reg s) :
    Calls Try.prog 61 #[.agg #[.int .u8 c, .int .u8 m], .agg #[.int .i64 op, .int .i64 d, .int .i64 s, .int .i64 t, .int .i64 mb, .int .i64 mi, .int .i64 ms, .int .i64 md, .int .i64 imm]] w
      fun e w' => RetB w.heap.size [rexI s 0 d, c, bothI s d] e w' ∧ Below w.heap.size w w' := by
  go_enter Try.func61, Try.ntmps61
  go_wp2
  refine still_tail 12 (by kernel_rfl) (by kernel_rfl) ?_
  simp only [List.take_succ_cons, List.take_zero, List.drop_succ_cons, List.drop_zero]
  repeat (first | still_step | still_call (rex_same _ _ _ _ hs.m m0 hd.m) | still_call (both_same _ _ _ hs hd))
  refine wpStill_nil ?_
  go_wp2
  go_ret
  exact lit2 w _ _ _ [rexI s 0 d, c, bothI s d] _ rfl rfl (by simp)
theorem one_any (c m op d s t mb mi ms md imm : Int) (w : World) (hd : Reg d) (hm : 0 ≤ m ∧ m ≤ 15) :
    Calls Try.prog 68 #[.agg #[.int .u8 c, .int .u8 m], .agg #[.int .i64 op, .int .i64 d, .int .i64 s, .int .i64 t, .int .i64 mb, .int .i64 mi, .int .i64 ms, .int .i64 md, .int .i64 imm]] w
      fun e w' => RetB w.heap.size [rexI 0 0 d, c, bothI m d] e w' ∧ Below w.heap.size w w' := by
  go_enter Try.func68, Try.ntmps68
  go_wp2
  refine still_tail 11 (by kernel_rfl) (by kernel_rfl) ?_
  simp only [List.take_succ_cons, List.take_zero, List.drop_succ_cons, List.drop_zero]
  repeat (first | still_step | still_call (rex_same _ _ _ _ m0 m0 hd.m) | still_call (both_wrap _ _ _ hm hd))
  refine wpStill_nil ?_
  go_wp2
  go_ret
  exact lit2 w _ _ _ [rexI 0 0 d, c, bothI m d] _ rfl rfl (by simp)
theorem chain_any (c m op d s t mb mi ms md imm : Int) (w : World) (hd : Reg d) (hs : Reg s) :
    Calls Try.prog 67 #[.agg #[.int .u8 c, .int .u8 m], .agg #[.int .i64 op, .int .i64 d, .int .i64 s, .int .i64 t, .int .i64 mb, .int .i64 mi, .int .i64 ms, .int .i64 md, .int .i64 imm]] w
      fun e w' => RetB w.heap.size [c, rexI d 0 s, 15, 56, m, bothI d s] e w' ∧ Below w.heap.size w w' := by
  go_enter Try.func67, Try.ntmps67
  go_wp2
  refine still_tail 14 (by kernel_rfl) (by kernel_rfl) ?_
  simp only [List.take_succ_cons, List.take_zero, List.drop_succ_cons, List.drop_zero]
  repeat (first | still_step | still_call (rex_same _ _ _ _ hd.m m0 hs.m) | still_call (both_same _ _ _ hd hs))
  refine wpStill_nil ?_
  go_wp2
  go_ret
  exact lit2 w _ _ _ [c, rexI d 0 s, 15, 56, m, bothI d s] _ rfl rfl (by simp)
theorem move_any (c m op d s t mb mi ms md imm : Int) (w : World) (hd : Reg d) (hs : Reg s) :
    Calls Try.prog 70 #[.agg #[.int .u8 c, .int .u8 m], .agg #[.int .i64 op, .int .i64 d, .int .i64 s, .int .i64 t, .int .i64 mb, .int .i64 mi, .int .i64 ms, .int .i64 md, .int .i64 imm]] w
      fun e w' => RetB w.heap.size [rexI d 0 s, c, m, bothI d s] e w' ∧ Below w.heap.size w w' := by
  go_enter Try.func70, Try.ntmps70
  go_wp2
  refine still_tail 14 (by kernel_rfl) (by kernel_rfl) ?_
  simp only [List.take_succ_cons, List.take_zero, List.drop_succ_cons, List.drop_zero]
  repeat (first | still_step | still_call (rex_same _ _ _ _ hd.m m0 hs.m) | still_call (both_same _ _ _ hd hs))
  refine wpStill_nil ?_
  go_wp2
  go_ret
  exact lit2 w _ _ _ [rexI d 0 s, c, m, bothI d s] _ rfl rfl (by simp)
theorem mulx_any (c m op d s t mb mi ms md imm : Int) (w : World) (hd : Reg d) (ht : Reg t) (hs : Reg s) :
    Calls Try.prog 66 #[.agg #[.int .u8 c, .int .u8 m], .agg #[.int .i64 op, .int .i64 d, .int .i64 s, .int .i64 t, .int .i64 mb, .int .i64 mi, .int .i64 ms, .int .i64 md, .int .i64 imm]] w
      fun e w' => RetB w.heap.size [c, mulx1 d t, mulx2 s, m, bothI d t] e w' ∧ Below w.heap.size w w' := by
  go_enter Try.func66, Try.ntmps66
  go_wp2
  refine still_tail 27 (by kernel_rfl) (by kernel_rfl) ?_
  simp only [List.take_succ_cons, List.take_zero, List.drop_succ_cons, List.drop_zero]
  repeat (first | still_step | still_call (high_same _ _ hd.m) | still_call (high_same _ _ ht.m) | still_call (both_same _ _ _ hd ht))
  refine wpStill_nil ?_
  go_wp2
  go_ret
  rw [mulx1_form, mulx2_form _ hs]
  exact lit2 w _ _ _ [c, mulx1 d t, mulx2 s, m, bothI d t] _ rfl rfl (by simp)
end Go.Proofs.Ytbcaelhchmoigaa
namespace Go.Proofs.Ytbcaelhchmoigaa
open Go.RowKit Calm
theorem step_appB {ops : Array Oper} {o : Oper} {a : Act} {w : World} {K : Act → World → Prop} {Q : Exit → Act → World → Prop} {E : Prop} (hgd : o.guard = none) (s x : Operand)
    (ho : o.op = .call { callee := .builtin .append, args := #[s, x], argTypes := #[59, 59] })
    {B B' : Nat} {v y : Value} {xs bs : List Int} (hs : a.eval s = v) (hx : a.eval x = y) (h1 : IsB w B v xs) (h2 : IsB w B' y bs) (hB : B ≤ w.heap.size) (hl : xs.length + bs.length ≤ 1000)
    (h : ∀ v' w', IsB w' B v' (xs ++ bs) → Below B w w' → K (a.put o.dst v') w') : if Region.wanted o (yielded ops a.tmps) = true then Oper.wp Try.prog o a w K Q else E := by
  have hw : Region.wanted o (yielded ops a.tmps) = true := by simp [Region.wanted, hgd]
  rw [if_pos hw]
  obtain ⟨i0, hi, hz0, hz1, hz2⟩ := info_parts Try.infoU8
  obtain ⟨hl2, hy⟩ := h2
  rcases hy with ⟨rfl, hn⟩ | ⟨g, cap, cur, rfl, hg, hh, hnc, hcm, hcs, htk⟩
  · have hb : bs = [] := by cases bs with | nil => rfl | cons _ _ => simp at hn
    subst hb
    have hrun := run_append_owned_none (P := Try.prog) (w := w) B 59 o.type 5 i0 1 Try.underlying59 hi v _ _ h1
    unfold Oper.wp
    simp [execOp, ho, resolve, invoke, builtin, hs, hx, hrun, Result.andThen]
    exact h v w (by rw [List.append_nil]; exact h1) (Below.refl _ _)
  · refine wp_append_own w s x 59 ho B 5 i0 (.int .u8 0) 1 1 Try.underlying59 hi hz0 hz1 hz2 rfl (by decide) v xs.length _ hs h1 ⟨g, 0, none⟩ bs.length cap (bs.map (Value.int .u8)) hx (by simp) ?_ ?_ ?_ ?_ hB ?_
    · intro j u hu
      have e : (⟨g, 0, none⟩ : Addr).add j = ⟨g, j, none⟩ := by unfold Addr.add; split <;> simp_all
      rw [e]
      have hj : j < bs.length := by
        rcases Nat.lt_or_ge j bs.length with hlt | hge
        · exact hlt
        · rw [List.getElem?_eq_none (by simpa using hge)] at hu; simp at hu
      unfold World.cell?
      rw [hh]
      simp only [Option.isSome_none, Bool.false_eq_true, if_false]
      rw [← htk, List.getElem?_take, if_pos (by omega)] at hu
      rw [← Array.getElem?_toList]; exact hu
    · intro u hu
      obtain ⟨n, _, rfl⟩ := List.mem_map.1 hu
      rfl
    · unfold maxLen; omega
    · omega
    · intro v' w' hown hgr _
      refine h v' w' ?_ ?_
      · unfold IsB
        rw [List.length_append, List.map_append]; exact hown
      · refine (Below.refl B w).grown hgr hB ?_
        intro k hk
        exact (World.ownsRow.lt h1 k hk).1
theorem cellk {B : Nat} {w w' : World} (h : Below B w w') {a : Addr} (ha : a.block < B) {v : Value} (hc : w.cell? a = some v) : w'.cell? a = some v := by
  rw [World.cell?_of_block (h.block a.block ha)]; exact hc
theorem cella {w : World} {a : Addr} {v : Value} (o : Obj) (h : w.cell? a = some v) : (w.alloc o).cell? a = some v := by
  rcases Nat.lt_or_ge a.block w.heap.size with hlt | hge
  · have : (w.alloc o).heap[a.block]? = w.heap[a.block]? := by
      show (w.heap.push o)[a.block]? = _
      rw [Array.getElem?_push, if_neg (by omega)]
    rw [World.cell?_of_block this]; exact h
  · unfold World.cell? at h
    rw [Array.getElem?_eq_none hge] at h; simp at h
theorem k4_alloc {V : World} {a0 a1 a2 a3 : Addr} {v0 v1 v2 v3 : Value} (o : Obj) (h : V.cell? a0 = some v0 ∧ V.cell? a1 = some v1 ∧ V.cell? a2 = some v2 ∧ V.cell? a3 = some v3) : (V.alloc o).cell? a0 = some v0 ∧ (V.alloc o).cell? a1 = some v1 ∧ (V.alloc o).cell? a2 = some v2 ∧ (V.alloc o).cell? a3 = some v3 :=
  ⟨cella o h.1, cella o h.2.1, cella o h.2.2.1, cella o h.2.2.2⟩
theorem k4_below {B : Nat} {V V' : World} {a0 a1 a2 a3 : Addr} {v0 v1 v2 v3 : Value} (hb : Below B V V') (h0 : a0.block < B) (h1 : a1.block < B) (h2 : a2.block < B) (h3 : a3.block < B) (h : V.cell? a0 = some v0 ∧ V.cell? a1 = some v1 ∧ V.cell? a2 = some v2 ∧ V.cell? a3 = some v3) : V'.cell? a0 = some v0 ∧ V'.cell? a1 = some v1 ∧ V'.cell? a2 = some v2 ∧ V'.cell? a3 = some v3 :=
  ⟨cellk hb h0 h.1, cellk hb h1 h.2.1, cellk hb h2 h.2.2.1, cellk hb h3 h.2.2.2⟩
theorem k6_alloc {V : World} {a0 a1 a2 a3 a4 a5 : Addr} {v0 v1 v2 v3 v4 v5 : Value} (o : Obj) (h : V.cell? a0 = some v0 ∧ V.cell? a1 = some v1 ∧ V.cell? a2 = some v2 ∧ V.cell? a3 = some v3 ∧ V.cell? a4 = some v4 ∧ V.cell? a5 = some v5) : (V.alloc o).cell? a0 = some v0 ∧ (V.alloc o).cell? a1 = some v1 ∧ (V.alloc o).cell? a2 = some v2 ∧ (V.alloc o).cell? a3 = some v3 ∧ (V.alloc o).cell? a4 = some v4 ∧ (V.alloc o).cell? a5 = some v5 :=
  ⟨cella o h.1, cella o h.2.1, cella o h.2.2.1, cella o h.2.2.2.1, cella o h.2.2.2.2.1, cella o h.2.2.2.2.2⟩
theorem k6_below {B : Nat} {V V' : World} {a0 a1 a2 a3 a4 a5 : Addr} {v0 v1 v2 v3 v4 v5 : Value} (hb : Below B V V') (h0 : a0.block < B) (h1 : a1.block < B) (h2 : a2.block < B) (h3 : a3.block < B) (h4 : a4.block < B) (h5 : a5.block < B) (h : V.cell? a0 = some v0 ∧ V.cell? a1 = some v1 ∧ V.cell? a2 = some v2 ∧ V.cell? a3 = some v3 ∧ V.cell? a4 = some v4 ∧ V.cell? a5 = some v5) : V'.cell? a0 = some v0 ∧ V'.cell? a1 = some v1 ∧ V'.cell? a2 = some v2 ∧ V'.cell? a3 = some v3 ∧ V'.cell? a4 = some v4 ∧ V'.cell? a5 = some v5 :=
  ⟨cellk hb h0 h.1, cellk hb h1 h.2.1, cellk hb h2 h.2.2.1, cellk hb h3 h.2.2.2.1, cellk hb h4 h.2.2.2.2.1, cellk hb h5 h.2.2.2.2.2⟩
theorem k11_alloc {V : World} {a0 a1 a2 a3 a4 a5 a6 a7 a8 a9 a10 : Addr} {v0 v1 v2 v3 v4 v5 v6 v7 v8 v9 v10 : Value} (o : Obj) (h : V.cell? a0 = some v0 ∧ V.cell? a1 = some v1 ∧ V.cell? a2 = some v2 ∧ V.cell? a3 = some v3 ∧ V.cell? a4 = some v4 ∧ V.cell? a5 = some v5 ∧ V.cell? a6 = some v6 ∧ V.cell? a7 = some v7 ∧ V.cell? a8 = some v8 ∧ V.cell? a9 = some v9 ∧ V.cell? a10 = some v10) : (V.alloc o).cell? a0 = some v0 ∧ (V.alloc o).cell? a1 = some v1 ∧ (V.alloc o).cell? a2 = some v2 ∧ (V.alloc o).cell? a3 = some v3 ∧ (V.alloc o).cell? a4 = some v4 ∧ (V.alloc o).cell? a5 = some v5 ∧ (V.alloc o).cell? a6 = some v6 ∧ (V.alloc o).cell? a7 = some v7 ∧ (V.alloc o).cell? a8 = some v8 ∧ (V.alloc o).cell? a9 = some v9 ∧ (V.alloc o).cell? a10 = some v10 :=
  ⟨cella o h.1, cella o h.2.1, cella o h.2.2.1, cella o h.2.2.2.1, cella o h.2.2.2.2.1, cella o h.2.2.2.2.2.1, cella o h.2.2.2.2.2.2.1, cella o h.2.2.2.2.2.2.2.1, cella o h.2.2.2.2.2.2.2.2.1, cella o h.2.2.2.2.2.2.2.2.2.1, cella o h.2.2.2.2.2.2.2.2.2.2⟩
theorem k11_below {B : Nat} {V V' : World} {a0 a1 a2 a3 a4 a5 a6 a7 a8 a9 a10 : Addr} {v0 v1 v2 v3 v4 v5 v6 v7 v8 v9 v10 : Value} (hb : Below B V V') (h0 : a0.block < B) (h1 : a1.block < B) (h2 : a2.block < B) (h3 : a3.block < B) (h4 : a4.block < B) (h5 : a5.block < B) (h6 : a6.block < B) (h7 : a7.block < B) (h8 : a8.block < B) (h9 : a9.block < B) (h10 : a10.block < B) (h : V.cell? a0 = some v0 ∧ V.cell? a1 = some v1 ∧ V.cell? a2 = some v2 ∧ V.cell? a3 = some v3 ∧ V.cell? a4 = some v4 ∧ V.cell? a5 = some v5 ∧ V.cell? a6 = some v6 ∧ V.cell? a7 = some v7 ∧ V.cell? a8 = some v8 ∧ V.cell? a9 = some v9 ∧ V.cell? a10 = some v10) : V'.cell? a0 = some v0 ∧ V'.cell? a1 = some v1 ∧ V'.cell? a2 = some v2 ∧ V'.cell? a3 = some v3 ∧ V'.cell? a4 = some v4 ∧ V'.cell? a5 = some v5 ∧ V'.cell? a6 = some v6 ∧ V'.cell? a7 = some v7 ∧ V'.cell? a8 = some v8 ∧ V'.cell? a9 = some v9 ∧ V'.cell? a10 = some v10 :=
  ⟨cellk hb h0 h.1, cellk hb h1 h.2.1, cellk hb h2 h.2.2.1, cellk hb h3 h.2.2.2.1, cellk hb h4 h.2.2.2.2.1, cellk hb h5 h.2.2.2.2.2.1, cellk hb h6 h.2.2.2.2.2.2.1, cellk hb h7 h.2.2.2.2.2.2.2.1, cellk hb h8 h.2.2.2.2.2.2.2.2.1, cellk hb h9 h.2.2.2.2.2.2.2.2.2.1, cellk hb h10 h.2.2.2.2.2.2.2.2.2.2⟩
theorem fin1 {W w1 : World} {o : Obj} (hb1 : Below (W.alloc o).drew.heap.size (W.alloc o).drew w1) : Below W.heap.size W w1 :=
  (below_dr (bal (Below.refl _ _) _)).trans (hb1.mono (by show W.heap.size ≤ (W.alloc o).heap.size; simp))
theorem fin2 {W w1 : World} (hb1 : Below W.drew.heap.size W.drew w1) : Below W.heap.size W w1 := (below_dr (Below.refl _ _)).trans hb1
theorem finA (W w1 : World) (K : Nat) (hK : W.heap.size = K) (cs : Array Value) (bs ys : List Int) (y : Value) (n : Nat) (hn : n = bs.length) (hcs : cs.toList = bs.map (Value.int .u8)) (hl : bs.length ≤ 1000)
    (hb1 : Below (W.alloc (.cells cs 5)).drew.heap.size (W.alloc (.cells cs 5)).drew w1) (hy : IsB w1 (W.alloc (.cells cs 5)).drew.heap.size y ys) :
    IsB w1 W.heap.size (.slice (some ⟨K, 0, none⟩) n n) bs ∧ IsB w1 W.heap.size y ys ∧ Below W.heap.size W w1 ∧ W.heap.size ≤ w1.heap.size := by
  rw [← hK]
  have hle : W.heap.size ≤ (W.alloc (.cells cs 5)).drew.heap.size := by show W.heap.size ≤ (W.alloc (.cells cs 5)).heap.size; simp
  have h0 : IsB (W.alloc (.cells cs 5)).drew W.heap.size (.slice (some ⟨W.heap.size, 0, none⟩) n n) bs := IsB.lit W W.heap.size bs n hn cs hcs (Nat.le_refl _) hl
  exact ⟨h0.later hb1, hy.mono hle, (below_dr (bal (Below.refl _ _) _)).trans (hb1.mono hle), Nat.le_trans hle hb1.size⟩
theorem finB (W w1 : World) (cs : Array Value) (bs ys : List Int) (y : Value) (n : Nat) (hn : n = bs.length) (hcs : cs.toList = bs.map (Value.int .u8)) (hl : bs.length ≤ 1000)
    (hb1 : Below W.drew.heap.size W.drew w1) (hy : IsB w1 W.drew.heap.size y ys) :
    IsB (w1.alloc (.cells cs 5)) W.heap.size (.slice (some ⟨w1.heap.size, 0, none⟩) n n) bs ∧ IsB (w1.alloc (.cells cs 5)) W.heap.size y ys ∧ Below W.heap.size W (w1.alloc (.cells cs 5)) ∧
      W.heap.size ≤ (w1.alloc (.cells cs 5)).heap.size := by
  have hz : W.heap.size ≤ w1.heap.size := hb1.size
  have hb2 : Below W.heap.size W w1 := (below_dr (Below.refl _ _)).trans hb1
  exact ⟨IsB.lit w1 W.heap.size bs n hn cs hcs hz hl, hy.alloc _, hb2.alloc hz _, by simp; omega⟩
theorem code_low (c d : Int) (h : 0 ≤ c ∧ c ≤ 200) : IntKind.u8.wrap (c + loR d) = c + loR d := by
  have := loR_in d
  simp only [IntKind.wrap, IntKind.bits, IntKind.signed]
  simp
  omega
theorem imm_byte (n : Int) (h : 0 ≤ n ∧ n ≤ 255) : IntKind.u8.wrap n = n := by
  simp only [IntKind.wrap, IntKind.bits, IntKind.signed]
  simp
  omega
theorem plc_index {mb mi ms md : Int} (h : plc mb mi ms md = true) : -1 ≤ mi ∧ mi ≤ 15 := by
  have := (plc_facts h).2.2.1
  omega
theorem lenI_le (mb md : Int) : lenI mb md ≤ 4 := by unfold lenI; split <;> (try split) <;> omega
theorem placeL_length (mid mb mi ms md : Int) : (placeL mid mb mi ms md).length ≤ 6 := by
  have := lenI_le mb md
  unfold placeL
  split <;> (try split) <;> simp [littleL_length] <;> omega
attribute [local irreducible] placeL loR hiR rexI bothI littleL
theorem mnumber_any (c m op d s t mb mi ms md imm : Int) (w : World) (hd : Reg d) (hm : 0 ≤ m ∧ m ≤ 15) (hn : -9223372036854775808 ≤ imm ∧ imm ≤ 9223372036854775807) :
    Calls Try.prog 65 #[.agg #[.int .u8 c, .int .u8 m], .agg #[.int .i64 op, .int .i64 d, .int .i64 s, .int .i64 t, .int .i64 mb, .int .i64 mi, .int .i64 ms, .int .i64 md, .int .i64 imm]] w
      fun e w' => RetB w.heap.size ([rexI 0 0 d, c, bothI m d] ++ littleL imm 4) e w' ∧ Below w.heap.size w w' := by
  have hwr := wrap_reg m hm
  go_enter Try.func65, Try.ntmps65
  go_wp2
  obtain ⟨W, hW⟩ : ∃ W, W = ((w.alloc (.cells #[.int .u8 c, .int .u8 m] 78)).alloc (.cells #[.int .i64 op, .int .i64 d, .int .i64 s, .int .i64 t, .int .i64 mb, .int .i64 mi, .int .i64 ms, .int .i64 md, .int .i64 imm] 35)) := ⟨_, rfl⟩
  have hB : Below w.heap.size w W := by rw [hW]; exact bal (bal (Below.refl _ _) _) _
  have hz : W.heap.size = w.heap.size + 1 + 1 := by rw [hW]; simp
  have f_c : W.cell? ⟨w.heap.size, 0, none⟩ = some (.int .u8 c) := by rw [hW]; go_simp
  have f_m : W.cell? ⟨w.heap.size, 1, none⟩ = some (.int .u8 m) := by rw [hW]; go_simp
  have f_d : W.cell? ⟨w.heap.size + 1, 1, none⟩ = some (.int .i64 d) := by rw [hW]; go_simp
  have f_imm : W.cell? ⟨w.heap.size + 1, 8, none⟩ = some (.int .i64 imm) := by rw [hW]; go_simp
  rw [← hW]
  clear hW
  have k0 : w.heap.size < W.heap.size := by omega
  have k1 : w.heap.size + 1 < W.heap.size := by omega
  have k2 : w.heap.size < W.heap.size + 1 := by omega
  have k3 : w.heap.size + 1 < W.heap.size + 1 := by omega
  go_region_held3 (fun V : World => V.cell? ⟨w.heap.size, 0, none⟩ = some (.int .u8 c) ∧ V.cell? ⟨w.heap.size, 1, none⟩ = some (.int .u8 m) ∧ V.cell? ⟨w.heap.size + 1, 1, none⟩ = some (.int .i64 d) ∧ V.cell? ⟨w.heap.size + 1, 8, none⟩ = some (.int .i64 imm))
    (first | exact ⟨f_c, f_m, f_d, f_imm⟩ | exact k4_below hfin k0 k0 k1 k1 ⟨f_c, f_m, f_d, f_imm⟩ | exact k4_below hfin1 k0 k0 k1 k1 ⟨f_c, f_m, f_d, f_imm⟩ | exact k4_alloc _ ⟨f_c, f_m, f_d, f_imm⟩ | exact k4_alloc _ (k4_below hfin1 k0 k0 k1 k1 ⟨f_c, f_m, f_d, f_imm⟩))
    (first | (go_at_call 86; refine (rex_any 0 0 d _ m0 m0 hd.m).mono ?_; rintro e w' ⟨rfl, rfl⟩) | (go_at_call 87; refine (both_any m d _ hm hd).mono ?_; rintro e w' ⟨rfl, rfl⟩) | (go_at_call 89; refine (little_any imm 4 _ (by decide) hn).mono ?_; rintro e w1 ⟨⟨y, rfl, hy⟩, hb1⟩; have hfin1 : Below W.heap.size W w1 := by (first | exact fin1 hb1 | exact fin2 hb1)) | (have hq := finA W _ _ hz #[.int .u8 (rexI 0 0 d), .int .u8 (c), .int .u8 (bothI m d)] [rexI 0 0 d, c, bothI m d] (littleL imm 4) _ 3 rfl rfl (by simp) hb1 hy; refine step_appB rfl _ _ rfl rfl rfl hq.1 hq.2.1 hq.2.2.2 (by rw [littleL_length]; simp) ?_; intro v' w' hv' hb'; have hfin := hq.2.2.1.trans hb') | (have hq := finB W _ #[.int .u8 (rexI 0 0 d), .int .u8 (c), .int .u8 (bothI m d)] [rexI 0 0 d, c, bothI m d] (littleL imm 4) _ 3 rfl rfl (by simp) hb1 hy; refine step_appB rfl _ _ rfl rfl rfl hq.1 hq.2.1 hq.2.2.2 (by rw [littleL_length]; simp) ?_; intro v' w' hv' hb'; have hfin := hq.2.2.1.trans hb'))
  all_goals (go_wp2; go_ret; exact ⟨⟨_, rfl, hv'.mono (by omega)⟩, hB.trans (hfin.mono (by omega))⟩)
theorem mwide_any (c m op d s t mb mi ms md imm : Int) (w : World) (hd : Reg d) (hc : 0 ≤ c ∧ c ≤ 200) (hn : -9223372036854775808 ≤ imm ∧ imm ≤ 9223372036854775807) :
    Calls Try.prog 62 #[.agg #[.int .u8 c, .int .u8 m], .agg #[.int .i64 op, .int .i64 d, .int .i64 s, .int .i64 t, .int .i64 mb, .int .i64 mi, .int .i64 ms, .int .i64 md, .int .i64 imm]] w
      fun e w' => RetB w.heap.size ([rexI 0 0 d, c + loR d] ++ littleL imm 8) e w' ∧ Below w.heap.size w w' := by
  have hl := loR_in d
  have hcw := code_low c d hc
  go_enter Try.func62, Try.ntmps62
  go_wp2
  obtain ⟨W, hW⟩ : ∃ W, W = ((w.alloc (.cells #[.int .u8 c, .int .u8 m] 78)).alloc (.cells #[.int .i64 op, .int .i64 d, .int .i64 s, .int .i64 t, .int .i64 mb, .int .i64 mi, .int .i64 ms, .int .i64 md, .int .i64 imm] 35)) := ⟨_, rfl⟩
  have hB : Below w.heap.size w W := by rw [hW]; exact bal (bal (Below.refl _ _) _) _
  have hz : W.heap.size = w.heap.size + 1 + 1 := by rw [hW]; simp
  have f_c : W.cell? ⟨w.heap.size, 0, none⟩ = some (.int .u8 c) := by rw [hW]; go_simp
  have f_m : W.cell? ⟨w.heap.size, 1, none⟩ = some (.int .u8 m) := by rw [hW]; go_simp
  have f_d : W.cell? ⟨w.heap.size + 1, 1, none⟩ = some (.int .i64 d) := by rw [hW]; go_simp
  have f_imm : W.cell? ⟨w.heap.size + 1, 8, none⟩ = some (.int .i64 imm) := by rw [hW]; go_simp
  rw [← hW]
  clear hW
  have k0 : w.heap.size < W.heap.size := by omega
  have k1 : w.heap.size + 1 < W.heap.size := by omega
  have k2 : w.heap.size < W.heap.size + 1 := by omega
  have k3 : w.heap.size + 1 < W.heap.size + 1 := by omega
  go_region_held3 (fun V : World => V.cell? ⟨w.heap.size, 0, none⟩ = some (.int .u8 c) ∧ V.cell? ⟨w.heap.size, 1, none⟩ = some (.int .u8 m) ∧ V.cell? ⟨w.heap.size + 1, 1, none⟩ = some (.int .i64 d) ∧ V.cell? ⟨w.heap.size + 1, 8, none⟩ = some (.int .i64 imm))
    (first | exact ⟨f_c, f_m, f_d, f_imm⟩ | exact k4_below hfin k0 k0 k1 k1 ⟨f_c, f_m, f_d, f_imm⟩ | exact k4_below hfin1 k0 k0 k1 k1 ⟨f_c, f_m, f_d, f_imm⟩ | exact k4_alloc _ ⟨f_c, f_m, f_d, f_imm⟩ | exact k4_alloc _ (k4_below hfin1 k0 k0 k1 k1 ⟨f_c, f_m, f_d, f_imm⟩))
    (first | (go_at_call 86; refine (rex_any 0 0 d _ m0 m0 hd.m).mono ?_; rintro e w' ⟨rfl, rfl⟩) | (go_at_call 88; refine (low_any d _ hd).mono ?_; rintro e w' ⟨rfl, rfl⟩) | (go_at_call 89; refine (little_any imm 8 _ (by decide) hn).mono ?_; rintro e w1 ⟨⟨y, rfl, hy⟩, hb1⟩; have hfin1 : Below W.heap.size W w1 := by (first | exact fin1 hb1 | exact fin2 hb1)) | (have hq := finA W _ _ hz #[.int .u8 (rexI 0 0 d), .int .u8 (c + loR d)] [rexI 0 0 d, c + loR d] (littleL imm 8) _ 2 rfl rfl (by simp) hb1 hy; refine step_appB rfl _ _ rfl rfl rfl hq.1 hq.2.1 hq.2.2.2 (by rw [littleL_length]; simp) ?_; intro v' w' hv' hb'; have hfin := hq.2.2.1.trans hb') | (have hq := finB W _ #[.int .u8 (rexI 0 0 d), .int .u8 (c + loR d)] [rexI 0 0 d, c + loR d] (littleL imm 8) _ 2 rfl rfl (by simp) hb1 hy; refine step_appB rfl _ _ rfl rfl rfl hq.1 hq.2.1 hq.2.2.2 (by rw [littleL_length]; simp) ?_; intro v' w' hv' hb'; have hfin := hq.2.2.1.trans hb'))
  all_goals (go_wp2; go_ret; exact ⟨⟨_, rfl, hv'.mono (by omega)⟩, hB.trans (hfin.mono (by omega))⟩)
theorem mtoD_any (c m op d s t mb mi ms md imm : Int) (w : World) (hd : Reg d) (hp : plc mb mi ms md = true) :
    Calls Try.prog 63 #[.agg #[.int .u8 c, .int .u8 m], .agg #[.int .i64 op, .int .i64 d, .int .i64 s, .int .i64 t, .int .i64 mb, .int .i64 mi, .int .i64 ms, .int .i64 md, .int .i64 imm]] w
      fun e w' => RetB w.heap.size ([rexI d mi mb, c] ++ placeL d mb mi ms md) e w' ∧ Below w.heap.size w w' := by
  have hb := (plc_facts hp).1
  have hi := plc_index hp
  go_enter Try.func63, Try.ntmps63
  go_wp2
  obtain ⟨W, hW⟩ : ∃ W, W = ((w.alloc (.cells #[.int .u8 c, .int .u8 m] 78)).alloc (.cells #[.int .i64 op, .int .i64 d, .int .i64 s, .int .i64 t, .int .i64 mb, .int .i64 mi, .int .i64 ms, .int .i64 md, .int .i64 imm] 35)) := ⟨_, rfl⟩
  have hB : Below w.heap.size w W := by rw [hW]; exact bal (bal (Below.refl _ _) _) _
  have hz : W.heap.size = w.heap.size + 1 + 1 := by rw [hW]; simp
  have f_c : W.cell? ⟨w.heap.size, 0, none⟩ = some (.int .u8 c) := by rw [hW]; go_simp
  have f_d : W.cell? ⟨w.heap.size + 1, 1, none⟩ = some (.int .i64 d) := by rw [hW]; go_simp
  have f_mb : W.cell? ⟨w.heap.size + 1, 4, none⟩ = some (.int .i64 mb) := by rw [hW]; go_simp
  have f_mi : W.cell? ⟨w.heap.size + 1, 5, none⟩ = some (.int .i64 mi) := by rw [hW]; go_simp
  have f_ms : W.cell? ⟨w.heap.size + 1, 6, none⟩ = some (.int .i64 ms) := by rw [hW]; go_simp
  have f_md : W.cell? ⟨w.heap.size + 1, 7, none⟩ = some (.int .i64 md) := by rw [hW]; go_simp
  rw [← hW]
  clear hW
  have k0 : w.heap.size < W.heap.size := by omega
  have k1 : w.heap.size + 1 < W.heap.size := by omega
  have k2 : w.heap.size < W.heap.size + 1 := by omega
  have k3 : w.heap.size + 1 < W.heap.size + 1 := by omega
  go_region_held3 (fun V : World => V.cell? ⟨w.heap.size, 0, none⟩ = some (.int .u8 c) ∧ V.cell? ⟨w.heap.size + 1, 1, none⟩ = some (.int .i64 d) ∧ V.cell? ⟨w.heap.size + 1, 4, none⟩ = some (.int .i64 mb) ∧ V.cell? ⟨w.heap.size + 1, 5, none⟩ = some (.int .i64 mi) ∧ V.cell? ⟨w.heap.size + 1, 6, none⟩ = some (.int .i64 ms) ∧ V.cell? ⟨w.heap.size + 1, 7, none⟩ = some (.int .i64 md))
    (first | exact ⟨f_c, f_d, f_mb, f_mi, f_ms, f_md⟩ | exact k6_below hfin k0 k1 k1 k1 k1 k1 ⟨f_c, f_d, f_mb, f_mi, f_ms, f_md⟩ | exact k6_below hfin1 k0 k1 k1 k1 k1 k1 ⟨f_c, f_d, f_mb, f_mi, f_ms, f_md⟩ | exact k6_alloc _ ⟨f_c, f_d, f_mb, f_mi, f_ms, f_md⟩ | exact k6_alloc _ (k6_below hfin1 k0 k1 k1 k1 k1 k1 ⟨f_c, f_d, f_mb, f_mi, f_ms, f_md⟩))
    (first | (go_at_call 86; refine (rex_any d mi mb _ hd.m hi (Reg.m hb)).mono ?_; rintro e w' ⟨rfl, rfl⟩) | (go_at_call 90; refine (eplace_any d mb mi ms md _ hd hp).mono ?_; rintro e w1 ⟨⟨y, rfl, hy⟩, hb1⟩; have hfin1 : Below W.heap.size W w1 := by (first | exact fin1 hb1 | exact fin2 hb1)) | (have hq := finA W _ _ hz #[.int .u8 (rexI d mi mb), .int .u8 (c)] [rexI d mi mb, c] (placeL d mb mi ms md) _ 2 rfl rfl (by simp) hb1 hy; refine step_appB rfl _ _ rfl rfl rfl hq.1 hq.2.1 hq.2.2.2 (by have := placeL_length d mb mi ms md; simp; omega) ?_; intro v' w' hv' hb'; have hfin := hq.2.2.1.trans hb') | (have hq := finB W _ #[.int .u8 (rexI d mi mb), .int .u8 (c)] [rexI d mi mb, c] (placeL d mb mi ms md) _ 2 rfl rfl (by simp) hb1 hy; refine step_appB rfl _ _ rfl rfl rfl hq.1 hq.2.1 hq.2.2.2 (by have := placeL_length d mb mi ms md; simp; omega) ?_; intro v' w' hv' hb'; have hfin := hq.2.2.1.trans hb'))
  all_goals (go_wp2; go_ret; exact ⟨⟨_, rfl, hv'.mono (by omega)⟩, hB.trans (hfin.mono (by omega))⟩)
theorem mfromS_any (c m op d s t mb mi ms md imm : Int) (w : World) (hs : Reg s) (hp : plc mb mi ms md = true) :
    Calls Try.prog 64 #[.agg #[.int .u8 c, .int .u8 m], .agg #[.int .i64 op, .int .i64 d, .int .i64 s, .int .i64 t, .int .i64 mb, .int .i64 mi, .int .i64 ms, .int .i64 md, .int .i64 imm]] w
      fun e w' => RetB w.heap.size ([rexI s mi mb, c] ++ placeL s mb mi ms md) e w' ∧ Below w.heap.size w w' := by
  have hb := (plc_facts hp).1
  have hi := plc_index hp
  go_enter Try.func64, Try.ntmps64
  go_wp2
  obtain ⟨W, hW⟩ : ∃ W, W = ((w.alloc (.cells #[.int .u8 c, .int .u8 m] 78)).alloc (.cells #[.int .i64 op, .int .i64 d, .int .i64 s, .int .i64 t, .int .i64 mb, .int .i64 mi, .int .i64 ms, .int .i64 md, .int .i64 imm] 35)) := ⟨_, rfl⟩
  have hB : Below w.heap.size w W := by rw [hW]; exact bal (bal (Below.refl _ _) _) _
  have hz : W.heap.size = w.heap.size + 1 + 1 := by rw [hW]; simp
  have f_c : W.cell? ⟨w.heap.size, 0, none⟩ = some (.int .u8 c) := by rw [hW]; go_simp
  have f_s : W.cell? ⟨w.heap.size + 1, 2, none⟩ = some (.int .i64 s) := by rw [hW]; go_simp
  have f_mb : W.cell? ⟨w.heap.size + 1, 4, none⟩ = some (.int .i64 mb) := by rw [hW]; go_simp
  have f_mi : W.cell? ⟨w.heap.size + 1, 5, none⟩ = some (.int .i64 mi) := by rw [hW]; go_simp
  have f_ms : W.cell? ⟨w.heap.size + 1, 6, none⟩ = some (.int .i64 ms) := by rw [hW]; go_simp
  have f_md : W.cell? ⟨w.heap.size + 1, 7, none⟩ = some (.int .i64 md) := by rw [hW]; go_simp
  rw [← hW]
  clear hW
  have k0 : w.heap.size < W.heap.size := by omega
  have k1 : w.heap.size + 1 < W.heap.size := by omega
  have k2 : w.heap.size < W.heap.size + 1 := by omega
  have k3 : w.heap.size + 1 < W.heap.size + 1 := by omega
  go_region_held3 (fun V : World => V.cell? ⟨w.heap.size, 0, none⟩ = some (.int .u8 c) ∧ V.cell? ⟨w.heap.size + 1, 2, none⟩ = some (.int .i64 s) ∧ V.cell? ⟨w.heap.size + 1, 4, none⟩ = some (.int .i64 mb) ∧ V.cell? ⟨w.heap.size + 1, 5, none⟩ = some (.int .i64 mi) ∧ V.cell? ⟨w.heap.size + 1, 6, none⟩ = some (.int .i64 ms) ∧ V.cell? ⟨w.heap.size + 1, 7, none⟩ = some (.int .i64 md))
    (first | exact ⟨f_c, f_s, f_mb, f_mi, f_ms, f_md⟩ | exact k6_below hfin k0 k1 k1 k1 k1 k1 ⟨f_c, f_s, f_mb, f_mi, f_ms, f_md⟩ | exact k6_below hfin1 k0 k1 k1 k1 k1 k1 ⟨f_c, f_s, f_mb, f_mi, f_ms, f_md⟩ | exact k6_alloc _ ⟨f_c, f_s, f_mb, f_mi, f_ms, f_md⟩ | exact k6_alloc _ (k6_below hfin1 k0 k1 k1 k1 k1 k1 ⟨f_c, f_s, f_mb, f_mi, f_ms, f_md⟩))
    (first | (go_at_call 86; refine (rex_any s mi mb _ hs.m hi (Reg.m hb)).mono ?_; rintro e w' ⟨rfl, rfl⟩) | (go_at_call 90; refine (eplace_any s mb mi ms md _ hs hp).mono ?_; rintro e w1 ⟨⟨y, rfl, hy⟩, hb1⟩; have hfin1 : Below W.heap.size W w1 := by (first | exact fin1 hb1 | exact fin2 hb1)) | (have hq := finA W _ _ hz #[.int .u8 (rexI s mi mb), .int .u8 (c)] [rexI s mi mb, c] (placeL s mb mi ms md) _ 2 rfl rfl (by simp) hb1 hy; refine step_appB rfl _ _ rfl rfl rfl hq.1 hq.2.1 hq.2.2.2 (by have := placeL_length s mb mi ms md; simp; omega) ?_; intro v' w' hv' hb'; have hfin := hq.2.2.1.trans hb') | (have hq := finB W _ #[.int .u8 (rexI s mi mb), .int .u8 (c)] [rexI s mi mb, c] (placeL s mb mi ms md) _ 2 rfl rfl (by simp) hb1 hy; refine step_appB rfl _ _ rfl rfl rfl hq.1 hq.2.1 hq.2.2.2 (by have := placeL_length s mb mi ms md; simp; omega) ?_; intro v' w' hv' hb'; have hfin := hq.2.2.1.trans hb'))
  all_goals (go_wp2; go_ret; exact ⟨⟨_, rfl, hv'.mono (by omega)⟩, hB.trans (hfin.mono (by omega))⟩)
theorem mshift_any (c m op d s t mb mi ms md imm : Int) (w : World) (hd : Reg d) (hm : 0 ≤ m ∧ m ≤ 15) (hn : 0 ≤ imm ∧ imm ≤ 255) :
    Calls Try.prog 69 #[.agg #[.int .u8 c, .int .u8 m], .agg #[.int .i64 op, .int .i64 d, .int .i64 s, .int .i64 t, .int .i64 mb, .int .i64 mi, .int .i64 ms, .int .i64 md, .int .i64 imm]] w
      fun e w' => RetB w.heap.size ([rexI 0 0 d, c, bothI m d] ++ [imm]) e w' ∧ Below w.heap.size w w' := by
  have hiw := imm_byte imm hn
  go_enter Try.func69, Try.ntmps69
  go_wp2
  obtain ⟨W, hW⟩ : ∃ W, W = ((w.alloc (.cells #[.int .u8 c, .int .u8 m] 78)).alloc (.cells #[.int .i64 op, .int .i64 d, .int .i64 s, .int .i64 t, .int .i64 mb, .int .i64 mi, .int .i64 ms, .int .i64 md, .int .i64 imm] 35)) := ⟨_, rfl⟩
  have hB : Below w.heap.size w W := by rw [hW]; exact bal (bal (Below.refl _ _) _) _
  have hz : W.heap.size = w.heap.size + 1 + 1 := by rw [hW]; simp
  have f_c : W.cell? ⟨w.heap.size, 0, none⟩ = some (.int .u8 c) := by rw [hW]; go_simp
  have f_m : W.cell? ⟨w.heap.size, 1, none⟩ = some (.int .u8 m) := by rw [hW]; go_simp
  have f_op : W.cell? ⟨w.heap.size + 1, 0, none⟩ = some (.int .i64 op) := by rw [hW]; go_simp
  have f_d : W.cell? ⟨w.heap.size + 1, 1, none⟩ = some (.int .i64 d) := by rw [hW]; go_simp
  have f_s : W.cell? ⟨w.heap.size + 1, 2, none⟩ = some (.int .i64 s) := by rw [hW]; go_simp
  have f_t : W.cell? ⟨w.heap.size + 1, 3, none⟩ = some (.int .i64 t) := by rw [hW]; go_simp
  have f_mb : W.cell? ⟨w.heap.size + 1, 4, none⟩ = some (.int .i64 mb) := by rw [hW]; go_simp
  have f_mi : W.cell? ⟨w.heap.size + 1, 5, none⟩ = some (.int .i64 mi) := by rw [hW]; go_simp
  have f_ms : W.cell? ⟨w.heap.size + 1, 6, none⟩ = some (.int .i64 ms) := by rw [hW]; go_simp
  have f_md : W.cell? ⟨w.heap.size + 1, 7, none⟩ = some (.int .i64 md) := by rw [hW]; go_simp
  have f_imm : W.cell? ⟨w.heap.size + 1, 8, none⟩ = some (.int .i64 imm) := by rw [hW]; go_simp
  rw [← hW]
  clear hW
  have k0 : w.heap.size < W.heap.size := by omega
  have k1 : w.heap.size + 1 < W.heap.size := by omega
  have k2 : w.heap.size < W.heap.size + 1 := by omega
  have k3 : w.heap.size + 1 < W.heap.size + 1 := by omega
  go_region_held3 (fun V : World => V.cell? ⟨w.heap.size, 0, none⟩ = some (.int .u8 c) ∧ V.cell? ⟨w.heap.size, 1, none⟩ = some (.int .u8 m) ∧ V.cell? ⟨w.heap.size + 1, 0, none⟩ = some (.int .i64 op) ∧ V.cell? ⟨w.heap.size + 1, 1, none⟩ = some (.int .i64 d) ∧ V.cell? ⟨w.heap.size + 1, 2, none⟩ = some (.int .i64 s) ∧ V.cell? ⟨w.heap.size + 1, 3, none⟩ = some (.int .i64 t) ∧ V.cell? ⟨w.heap.size + 1, 4, none⟩ = some (.int .i64 mb) ∧ V.cell? ⟨w.heap.size + 1, 5, none⟩ = some (.int .i64 mi) ∧ V.cell? ⟨w.heap.size + 1, 6, none⟩ = some (.int .i64 ms) ∧ V.cell? ⟨w.heap.size + 1, 7, none⟩ = some (.int .i64 md) ∧ V.cell? ⟨w.heap.size + 1, 8, none⟩ = some (.int .i64 imm))
    (first | exact ⟨f_c, f_m, f_op, f_d, f_s, f_t, f_mb, f_mi, f_ms, f_md, f_imm⟩ | exact k11_below hfin k0 k0 k1 k1 k1 k1 k1 k1 k1 k1 k1 ⟨f_c, f_m, f_op, f_d, f_s, f_t, f_mb, f_mi, f_ms, f_md, f_imm⟩ | exact k11_below hfin1 k0 k0 k1 k1 k1 k1 k1 k1 k1 k1 k1 ⟨f_c, f_m, f_op, f_d, f_s, f_t, f_mb, f_mi, f_ms, f_md, f_imm⟩ | exact k11_alloc _ ⟨f_c, f_m, f_op, f_d, f_s, f_t, f_mb, f_mi, f_ms, f_md, f_imm⟩ | exact k11_alloc _ (k11_below hfin1 k0 k0 k1 k1 k1 k1 k1 k1 k1 k1 k1 ⟨f_c, f_m, f_op, f_d, f_s, f_t, f_mb, f_mi, f_ms, f_md, f_imm⟩))
    (first | (go_at_call 68; refine (one_any c m op d s t mb mi ms md imm _ hd hm).mono ?_; rintro e w1 ⟨⟨y, rfl, hy⟩, hb1⟩; have hfin1 : Below W.heap.size W w1 := by (first | exact fin1 hb1 | exact fin2 hb1)) | (have hq := finA W _ _ hz #[.int .u8 (imm)] [imm] ([rexI 0 0 d, c, bothI m d]) _ 1 rfl rfl (by simp) hb1 hy; refine step_appB rfl _ _ rfl rfl rfl hq.2.1 hq.1 hq.2.2.2 (by simp) ?_; intro v' w' hv' hb'; have hfin := hq.2.2.1.trans hb') | (have hq := finB W _ #[.int .u8 (imm)] [imm] ([rexI 0 0 d, c, bothI m d]) _ 1 rfl rfl (by simp) hb1 hy; refine step_appB rfl _ _ rfl rfl rfl hq.2.1 hq.1 hq.2.2.2 (by simp) ?_; intro v' w' hv' hb'; have hfin := hq.2.2.1.trans hb'))
  all_goals (go_wp2; go_ret; exact ⟨⟨_, rfl, hv'.mono (by omega)⟩, hB.trans (hfin.mono (by omega))⟩)
end Go.Proofs.Ytbcaelhchmoigaa
namespace Go.Proofs.Ytbcaelhchmoigaa
open Go.RowKit Calm
theorem lit2' (w : World) (A B : Obj) (cs : Array Value) (bs : List Int) (n : Nat) (hn : n = bs.length) (hcs : cs.toList = bs.map (Value.int .u8)) (hl : bs.length ≤ 1000) :
    RetB w.heap.size bs (.returned (.slice (some ⟨w.heap.size + 1 + 1, 0, none⟩) n n)) (((w.alloc A).alloc B).alloc (.cells cs 5)) ∧
      Below w.heap.size w (((w.alloc A).alloc B).alloc (.cells cs 5)) := by
  refine ⟨⟨_, rfl, ?_⟩, (bal (bal (bal (Below.refl _ _) _) _) _)⟩
  have := IsB.lit ((w.alloc A).alloc B) w.heap.size bs n hn cs hcs (by simp; omega) hl
  simp only [World.size_alloc] at this
  exact this
theorem mret_any (c m op d s t mb mi ms md imm : Int) (w : World) :
    Calls Try.prog 73 #[.agg #[.int .u8 c, .int .u8 m], .agg #[.int .i64 op, .int .i64 d, .int .i64 s, .int .i64 t, .int .i64 mb, .int .i64 mi, .int .i64 ms, .int .i64 md, .int .i64 imm]] w
      fun e w' => RetB w.heap.size [c] e w' ∧ Below w.heap.size w w' := by
  go_enter Try.func73, Try.ntmps73
  go_wp2
  go_ret
  exact lit2' w _ _ _ [c] _ rfl rfl (by simp)
theorem hiR_z : hiR 0 = 0 := by decide
attribute [local irreducible] placeL loR hiR rexI bothI littleL
theorem mstack_s0 (c m op d s t mb mi ms md imm : Int) (w : World) (hr1 : 1 ≤ s ∧ s ≤ 15) (ho : d = 0) (hc : 0 ≤ c ∧ c ≤ 200) (h1 : hiR s = 0) :
    Calls Try.prog 71 #[.agg #[.int .u8 c, .int .u8 m], .agg #[.int .i64 op, .int .i64 d, .int .i64 s, .int .i64 t, .int .i64 mb, .int .i64 mi, .int .i64 ms, .int .i64 md, .int .i64 imm]] w
      fun e w' => RetB w.heap.size [c + loR s] e w' ∧ Below w.heap.size w w' := by
  have hcw := code_low c s hc
  have hlt : d < s := by omega
  have hr : 0 ≤ s ∧ s ≤ 15 := by omega
  have hm1 : -1 ≤ s ∧ s ≤ 15 := by omega
  have e1 : (hiR s == 1) = false := by simp [h1]
  go_enter Try.func71, Try.ntmps71
  go_wp2_with (go_at_call 91; refine (high_any _ _ (by assumption)).mono ?_; rintro e w' ⟨rfl, rfl⟩)
  refine still_tail 4 (by kernel_rfl) (by kernel_rfl) ?_; simp only [List.take_succ_cons, List.take_zero, List.drop_succ_cons, List.drop_zero]
  repeat (first | still_step | still_call (low_same _ _ hr))
  refine wpStill_nil ?_; go_wp2; go_ret; exact lit2 w _ _ _ [c + loR s] _ rfl rfl (by simp)
theorem mstack_s1 (c m op d s t mb mi ms md imm : Int) (w : World) (hr1 : 1 ≤ s ∧ s ≤ 15) (ho : d = 0) (hc : 0 ≤ c ∧ c ≤ 200) (h1 : hiR s = 1) :
    Calls Try.prog 71 #[.agg #[.int .u8 c, .int .u8 m], .agg #[.int .i64 op, .int .i64 d, .int .i64 s, .int .i64 t, .int .i64 mb, .int .i64 mi, .int .i64 ms, .int .i64 md, .int .i64 imm]] w
      fun e w' => RetB w.heap.size [65, c + loR s] e w' ∧ Below w.heap.size w w' := by
  have hcw := code_low c s hc
  have hlt : d < s := by omega
  have hr : 0 ≤ s ∧ s ≤ 15 := by omega
  have hm1 : -1 ≤ s ∧ s ≤ 15 := by omega
  have e1 : (hiR s == 1) = true := by simp [h1]
  go_enter Try.func71, Try.ntmps71
  go_wp2_with (go_at_call 91; refine (high_any _ _ (by assumption)).mono ?_; rintro e w' ⟨rfl, rfl⟩)
  refine still_tail 5 (by kernel_rfl) (by kernel_rfl) ?_; simp only [List.take_succ_cons, List.take_zero, List.drop_succ_cons, List.drop_zero]
  repeat (first | still_step | still_call (low_same _ _ hr))
  refine wpStill_nil ?_; go_wp2; go_ret; exact lit2 w _ _ _ [65, c + loR s] _ rfl rfl (by simp)
theorem mstack_d0 (c m op d s t mb mi ms md imm : Int) (w : World) (hr1 : 1 ≤ d ∧ d ≤ 15) (ho : s = 0) (hc : 0 ≤ c ∧ c ≤ 200) (h1 : hiR d = 0) :
    Calls Try.prog 71 #[.agg #[.int .u8 c, .int .u8 m], .agg #[.int .i64 op, .int .i64 d, .int .i64 s, .int .i64 t, .int .i64 mb, .int .i64 mi, .int .i64 ms, .int .i64 md, .int .i64 imm]] w
      fun e w' => RetB w.heap.size [c + loR d] e w' ∧ Below w.heap.size w w' := by
  have hcw := code_low c d hc
  have hlt : s < d := by omega
  have hr : 0 ≤ d ∧ d ≤ 15 := by omega
  have hm1 : -1 ≤ d ∧ d ≤ 15 := by omega
  have e1 : (hiR d == 1) = false := by simp [h1]
  go_enter Try.func71, Try.ntmps71
  go_wp2_with (go_at_call 91; refine (high_any _ _ (by assumption)).mono ?_; rintro e w' ⟨rfl, rfl⟩)
  refine still_tail 4 (by kernel_rfl) (by kernel_rfl) ?_; simp only [List.take_succ_cons, List.take_zero, List.drop_succ_cons, List.drop_zero]
  repeat (first | still_step | still_call (low_same _ _ hr))
  refine wpStill_nil ?_; go_wp2; go_ret; exact lit2 w _ _ _ [c + loR d] _ rfl rfl (by simp)
theorem mstack_d1 (c m op d s t mb mi ms md imm : Int) (w : World) (hr1 : 1 ≤ d ∧ d ≤ 15) (ho : s = 0) (hc : 0 ≤ c ∧ c ≤ 200) (h1 : hiR d = 1) :
    Calls Try.prog 71 #[.agg #[.int .u8 c, .int .u8 m], .agg #[.int .i64 op, .int .i64 d, .int .i64 s, .int .i64 t, .int .i64 mb, .int .i64 mi, .int .i64 ms, .int .i64 md, .int .i64 imm]] w
      fun e w' => RetB w.heap.size [65, c + loR d] e w' ∧ Below w.heap.size w w' := by
  have hcw := code_low c d hc
  have hlt : s < d := by omega
  have hr : 0 ≤ d ∧ d ≤ 15 := by omega
  have hm1 : -1 ≤ d ∧ d ≤ 15 := by omega
  have e1 : (hiR d == 1) = true := by simp [h1]
  go_enter Try.func71, Try.ntmps71
  go_wp2_with (go_at_call 91; refine (high_any _ _ (by assumption)).mono ?_; rintro e w' ⟨rfl, rfl⟩)
  refine still_tail 5 (by kernel_rfl) (by kernel_rfl) ?_; simp only [List.take_succ_cons, List.take_zero, List.drop_succ_cons, List.drop_zero]
  repeat (first | still_step | still_call (low_same _ _ hr))
  refine wpStill_nil ?_; go_wp2; go_ret; exact lit2 w _ _ _ [65, c + loR d] _ rfl rfl (by simp)
theorem mstack_z (c m op t mb mi ms md imm : Int) (w : World) (hc : 0 ≤ c ∧ c ≤ 200) :
    Calls Try.prog 71 #[.agg #[.int .u8 c, .int .u8 m], .agg #[.int .i64 op, .int .i64 0, .int .i64 0, .int .i64 t, .int .i64 mb, .int .i64 mi, .int .i64 ms, .int .i64 md, .int .i64 imm]] w
      fun e w' => RetB w.heap.size [c + loR 0] e w' ∧ Below w.heap.size w w' := by
  have hcw := code_low c 0 hc
  have e1 : (hiR 0 == 1) = false := by rw [hiR_z]; rfl
  have hm1 : -1 ≤ (0 : Int) ∧ (0 : Int) ≤ 15 := by omega
  go_enter Try.func71, Try.ntmps71
  go_wp2_with (go_at_call 91; refine (high_any _ _ (by assumption)).mono ?_; rintro e w' ⟨rfl, rfl⟩)
  refine still_tail 4 (by kernel_rfl) (by kernel_rfl) ?_; simp only [List.take_succ_cons, List.take_zero, List.drop_succ_cons, List.drop_zero]
  repeat (first | still_step | still_call (low_same _ _ (by omega)))
  refine wpStill_nil ?_; go_wp2; go_ret; exact lit2 w _ _ _ [c + loR 0] _ rfl rfl (by simp)
def stackL (c r : Int) : List Int := if hiR r = 1 then [65, c + loR r] else [c + loR r]
theorem stackL_z (c : Int) : stackL c 0 = [c + loR 0] := by unfold stackL; rw [if_neg (by rw [hiR_z]; decide)]
theorem mstackS_any (c m op d s t mb mi ms md imm : Int) (w : World) (hr : Reg s) (ho : d = 0) (hc : 0 ≤ c ∧ c ≤ 200) :
    Calls Try.prog 71 #[.agg #[.int .u8 c, .int .u8 m], .agg #[.int .i64 op, .int .i64 d, .int .i64 s, .int .i64 t, .int .i64 mb, .int .i64 mi, .int .i64 ms, .int .i64 md, .int .i64 imm]] w
      fun e w' => RetB w.heap.size (stackL c s) e w' ∧ Below w.heap.size w w' := by
  by_cases h0 : s = 0
  · subst h0 ho; rw [stackL_z]; exact mstack_z c m op t mb mi ms md imm w hc
  · have hr1 : 1 ≤ s ∧ s ≤ 15 := by unfold Reg at hr; omega
    unfold stackL
    rcases hiR_01 s with h | h
    · rw [if_neg (by omega)]; exact mstack_s0 c m op d s t mb mi ms md imm w hr1 ho hc h
    · rw [if_pos h]; exact mstack_s1 c m op d s t mb mi ms md imm w hr1 ho hc h
theorem mstackD_any (c m op d s t mb mi ms md imm : Int) (w : World) (hr : Reg d) (ho : s = 0) (hc : 0 ≤ c ∧ c ≤ 200) :
    Calls Try.prog 71 #[.agg #[.int .u8 c, .int .u8 m], .agg #[.int .i64 op, .int .i64 d, .int .i64 s, .int .i64 t, .int .i64 mb, .int .i64 mi, .int .i64 ms, .int .i64 md, .int .i64 imm]] w
      fun e w' => RetB w.heap.size (stackL c d) e w' ∧ Below w.heap.size w w' := by
  by_cases h0 : d = 0
  · subst h0 ho; rw [stackL_z]; exact mstack_z c m op t mb mi ms md imm w hc
  · have hr1 : 1 ≤ d ∧ d ≤ 15 := by unfold Reg at hr; omega
    unfold stackL
    rcases hiR_01 d with h | h
    · rw [if_neg (by omega)]; exact mstack_d0 c m op d s t mb mi ms md imm w hr1 ho hc h
    · rw [if_pos h]; exact mstack_d1 c m op d s t mb mi ms md imm w hr1 ho hc h
theorem mjump_0 (c m op d s t mb mi ms md imm : Int) (w : World) (hn : -9223372036854775808 ≤ imm ∧ imm ≤ 9223372036854775807) (h0 : (m != 0) = false) :
    Calls Try.prog 72 #[.agg #[.int .u8 c, .int .u8 m], .agg #[.int .i64 op, .int .i64 d, .int .i64 s, .int .i64 t, .int .i64 mb, .int .i64 mi, .int .i64 ms, .int .i64 md, .int .i64 imm]] w
      fun e w' => RetB w.heap.size ([c] ++ littleL imm 4) e w' ∧ Below w.heap.size w w' := by
  go_enter Try.func72, Try.ntmps72
  go_wp2_with (fail)
  go_at_call 89
  refine (little_any imm 4 _ (by decide) hn).mono ?_
  rintro e w1 ⟨⟨y, rfl, hy⟩, hb1⟩
  obtain ⟨hL, hB0⟩ := lit2' w (Obj.cells #[Value.int IntKind.u8 c, Value.int IntKind.u8 m] 78) (Obj.cells #[.int .i64 op, .int .i64 d, .int .i64 s, .int .i64 t, .int .i64 mb, .int .i64 mi, .int .i64 ms, .int .i64 md, .int .i64 imm] 35) #[.int .u8 c] [c] 1 rfl rfl (by simp)
  obtain ⟨v0, hv0, hL0⟩ := hL
  cases hv0
  have hL1 := hL0.later hb1
  have hB : Below w.heap.size w w1 := hB0.trans (hb1.mono (by simp; omega))
  have hz2 := hB.size
  have hle : w.heap.size ≤ (((w.alloc (Obj.cells #[Value.int IntKind.u8 c, Value.int IntKind.u8 m] 78)).alloc (Obj.cells #[.int .i64 op, .int .i64 d, .int .i64 s, .int .i64 t, .int .i64 mb, .int .i64 mi, .int .i64 ms, .int .i64 md, .int .i64 imm] 35)).alloc (.cells #[.int .u8 c] 5)).heap.size := by simp; omega
  have hy1 := hy.mono hle
  clear hL0 hb1 hB0 hy hle
  go_wp2_with (at_builtin; refine wpList_appB (xs := [c]) (bs := littleL imm 4) (B := w.heap.size) rfl _ _ rfl rfl rfl hL1 hy1 hz2 (by rw [littleL_length]; simp) ?_; intro v' w' hB' hb')
  go_ret
  exact ⟨⟨_, rfl, hB'⟩, hB.trans hb'⟩
theorem jump_lit (w : World) (A : Obj) (c m op d s t mb mi ms md imm : Int) :
    IsB ((((w.alloc A).alloc (Obj.cells #[.int .i64 op, .int .i64 d, .int .i64 s, .int .i64 t, .int .i64 mb, .int .i64 mi, .int .i64 ms, .int .i64 md, .int .i64 imm] 35)).alloc (.cells #[.int .u8 c] 5)).alloc (.cells #[.int .u8 m] 5)) (w.heap.size + 2) (.slice (some ⟨w.heap.size + 1 + 1, 0, none⟩) 1 1) [c] ∧
    IsB ((((w.alloc A).alloc (Obj.cells #[.int .i64 op, .int .i64 d, .int .i64 s, .int .i64 t, .int .i64 mb, .int .i64 mi, .int .i64 ms, .int .i64 md, .int .i64 imm] 35)).alloc (.cells #[.int .u8 c] 5)).alloc (.cells #[.int .u8 m] 5)) (w.heap.size + 2) (.slice (some ⟨w.heap.size + 1 + 1 + 1, 0, none⟩) 1 1) [m] ∧
    ∀ w2, Below (w.heap.size + 2) ((((w.alloc A).alloc (Obj.cells #[.int .i64 op, .int .i64 d, .int .i64 s, .int .i64 t, .int .i64 mb, .int .i64 mi, .int .i64 ms, .int .i64 md, .int .i64 imm] 35)).alloc (.cells #[.int .u8 c] 5)).alloc (.cells #[.int .u8 m] 5)) w2 →
      Below w.heap.size w w2 ∧ w2.cell? { block := w.heap.size + 1, off := 8 } = some (.int .i64 imm) ∧ w.heap.size + 2 ≤ w2.heap.size := by
  obtain ⟨W, hW⟩ : ∃ W, W = ((w.alloc A).alloc (Obj.cells #[.int .i64 op, .int .i64 d, .int .i64 s, .int .i64 t, .int .i64 mb, .int .i64 mi, .int .i64 ms, .int .i64 md, .int .i64 imm] 35)) := ⟨_, rfl⟩
  have hWz : W.heap.size = w.heap.size + 2 := by rw [hW]; simp
  have hWc : W.cell? { block := w.heap.size + 1, off := 8 } = some (.int .i64 imm) := by
    rw [hW]
    have := World.cell?_alloc_new (w.alloc A) #[.int .i64 op, .int .i64 d, .int .i64 s, .int .i64 t, .int .i64 mb, .int .i64 mi, .int .i64 ms, .int .i64 md, .int .i64 imm] 35
    simp only [World.size_alloc] at this
    exact this 8
  have hWb : Below w.heap.size w W := by rw [hW]; exact bal (bal (Below.refl _ _) _) _
  rw [← hW]
  have h1 := (IsB.lit W W.heap.size [c] 1 rfl #[.int .u8 c] rfl (Nat.le_refl _) (by simp)).alloc (.cells #[.int .u8 m] 5)
  have h2 := (IsB.lit (W.alloc (.cells #[.int .u8 c] 5)) W.heap.size [m] 1 rfl #[.int .u8 m] rfl (by simp) (by simp))
  have hBw : Below W.heap.size W ((W.alloc (.cells #[.int .u8 c] 5)).alloc (.cells #[.int .u8 m] 5)) := bal (bal (Below.refl _ _) _) _
  rw [World.size_alloc] at h2
  rw [hWz] at h1 h2 hBw
  refine ⟨h1, h2, fun w2 hb2 => ?_⟩
  have hb3 := hBw.trans hb2
  exact ⟨hWb.trans (hb3.mono (by omega)), cellk hb3 (by simp) hWc, by have := hb3.size; omega⟩
theorem mjump_1 (c m op d s t mb mi ms md imm : Int) (w : World) (hn : -9223372036854775808 ≤ imm ∧ imm ≤ 9223372036854775807) (h0 : (m != 0) = true) :
    Calls Try.prog 72 #[.agg #[.int .u8 c, .int .u8 m], .agg #[.int .i64 op, .int .i64 d, .int .i64 s, .int .i64 t, .int .i64 mb, .int .i64 mi, .int .i64 ms, .int .i64 md, .int .i64 imm]] w
      fun e w' => RetB w.heap.size ([c, m] ++ littleL imm 4) e w' ∧ Below w.heap.size w w' := by
  have hJ := jump_lit w (Obj.cells #[Value.int IntKind.u8 c, Value.int IntKind.u8 m] 78) c m op d s t mb mi ms md imm
  go_enter Try.func72, Try.ntmps72
  go_wp2_with (first | (go_at_call 89; refine (little_any imm 4 _ (by decide) hn).mono ?_; rintro e w1 ⟨⟨y, rfl, hy⟩, hb1⟩; have hv3 := hv2.later hb1; have hy1 := hy.mono hz2; have hb4 := hbw.trans (hb1.mono (by omega)); have hz3 := Nat.le_trans hz2 hb1.size) | (at_builtin; refine wpList_appB (xs := [c, m]) (bs := littleL imm 4) (B := w.heap.size + 2) rfl _ _ rfl rfl rfl hv3 hy1 hz3 (by rw [littleL_length]; simp) ?_; intro v' w' hB' hb') | (at_builtin; refine wpList_appB (xs := [c]) (bs := [m]) (B := w.heap.size + 2) rfl _ _ rfl rfl rfl hJ.1 hJ.2.1 (by simp) (by simp) ?_; intro v2 w2 hv2 hb2; obtain ⟨hbw, hc, hz2⟩ := hJ.2.2 w2 hb2; clear hJ hb2))
  go_ret
  exact ⟨⟨_, rfl, hB'.mono (by omega)⟩, hb4.trans (hb'.mono (by omega))⟩
def jumpL (c m imm : Int) : List Int := if m = 0 then c :: littleL imm 4 else c :: m :: littleL imm 4
theorem mjump_any (c m op d s t mb mi ms md imm : Int) (w : World) (hn : -9223372036854775808 ≤ imm ∧ imm ≤ 9223372036854775807) :
    Calls Try.prog 72 #[.agg #[.int .u8 c, .int .u8 m], .agg #[.int .i64 op, .int .i64 d, .int .i64 s, .int .i64 t, .int .i64 mb, .int .i64 mi, .int .i64 ms, .int .i64 md, .int .i64 imm]] w
      fun e w' => RetB w.heap.size (jumpL c m imm) e w' ∧ Below w.heap.size w w' := by
  unfold jumpL
  by_cases h : m = 0
  · rw [if_pos h]; exact mjump_0 c m op d s t mb mi ms md imm w hn (by simp [h])
  · rw [if_neg h]; exact mjump_1 c m op d s t mb mi ms md imm w hn (by simp [h])
end Go.Proofs.Ytbcaelhchmoigaa
