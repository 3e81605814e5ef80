/- Several texts, one behind the other. -/
import Derived.Test.YtakmpnmmcjnecaaMF
set_option linter.unusedVariables false
set_option linter.unusedSimpArgs false
/- decode.cursor.place (layer 7). Conditions: the cursor is one, the bytes are bytes. -/
namespace Go.Proofs.Ytakmpnmmcjnecaa
open Go.RowKit Calm

theorem CurA.alloc {w : World} {b : Nat} {s : ByteArray} {c : Cur} (h : CurA w b s c) (hb : b < w.heap.size) (o : Obj) : CurA (w.alloc o) b s c := by
  obtain ⟨n, ⟨h1, h2⟩, h3⟩ := h
  exact ⟨n, ⟨h1, by rw [Below.heap_alloc _ _ _ hb]; exact h2⟩, h3⟩
theorem CurA.drN {w : World} {b : Nat} {s : ByteArray} {c : Cur} (h : CurA w b s c) (n : Nat) : CurA (w.drewN n) b s c := h
theorem CurA.dr {w : World} {b : Nat} {s : ByteArray} {c : Cur} (h : CurA w b s c) : CurA w.drew b s c := h
theorem CurA.set {w : World} {b : Nat} {s : ByteArray} {c : Cur} (h : CurA w b s c) (p : Addr) (hp : b ≠ p.block) (u : Value) : CurA (w.setCell p u) b s c := by
  obtain ⟨n, ⟨h1, h2⟩, h3⟩ := h
  exact ⟨n, ⟨h1, by rw [Below.heap_setCell _ _ _ _ hp]; exact h2⟩, h3⟩
theorem CurA.lt {w : World} {b : Nat} {s : ByteArray} {c : Cur} (h : CurA w b s c) : b < w.heap.size := by
  obtain ⟨n, ⟨h1, h2⟩, h3⟩ := h
  rcases Nat.lt_or_ge b w.heap.size with h | h
  · exact h
  · rw [Array.getElem?_eq_none h] at h2; simp at h2
theorem KeepBut.setNew {b : Nat} {x y : World} (h : KeepBut b x y) (p : Addr) (hp : x.heap.size ≤ p.block) (u : Value) : KeepBut b x (y.setCell p u) :=
  ⟨h.os, h.tape, h.output, by simp only [World.setCell, Array.size_modify]; exact h.size, fun k hk hb => (Below.heap_setCell _ _ _ _ (by omega)).trans (h.block k hk hb)⟩
def memC (mb mi ms md : Int) : Array Value := #[.int .i64 mb, .int .i64 mi, .int .i64 ms, .int .i64 md]
theorem mem_facts {W : World} {m : Nat} {mb mi ms md : Int} (h : W.heap[m]? = some (.cells (memC mb mi ms md) 23)) :
    (W.cell? ⟨m, 0, none⟩ = some (.int .i64 mb) ∧ W.cell? ⟨m, 1, none⟩ = some (.int .i64 mi) ∧ W.cell? ⟨m, 2, none⟩ = some (.int .i64 ms) ∧ W.cell? ⟨m, 3, none⟩ = some (.int .i64 md)) ∧
    (W.frozen? ⟨m, 0, none⟩ = false ∧ W.frozen? ⟨m, 1, none⟩ = false ∧ W.frozen? ⟨m, 2, none⟩ = false ∧ W.frozen? ⟨m, 3, none⟩ = false) := by
  unfold World.cell? World.frozen?
  rw [h]
  exact ⟨⟨rfl, rfl, rfl, rfl⟩, by simp, by simp, by simp, by simp⟩
theorem heap_two (w : World) (A B : Obj) : ((w.alloc A).alloc B).heap[w.heap.size]? = some A ∧ ((w.alloc A).alloc B).heap[w.heap.size + 1]? = some B := by
  constructor
  · show ((w.heap.push A).push B)[w.heap.size]? = _; rw [Array.getElem?_push, if_neg (by simp), Array.getElem?_push, if_pos rfl]
  · show ((w.heap.push A).push B)[w.heap.size + 1]? = _; rw [Array.getElem?_push, if_pos (by simp)]
theorem mem_set0 {W : World} {m : Nat} {a b c d : Int} (h : W.heap[m]? = some (.cells (memC a b c d) 23)) (x : Int) : (W.setCell ⟨m, 0, none⟩ (.int .i64 x)).heap[m]? = some (.cells (memC x b c d) 23) := by rw [setCell_heap h]; rfl
theorem mem_set1 {W : World} {m : Nat} {a b c d : Int} (h : W.heap[m]? = some (.cells (memC a b c d) 23)) (x : Int) : (W.setCell ⟨m, 1, none⟩ (.int .i64 x)).heap[m]? = some (.cells (memC a x c d) 23) := by rw [setCell_heap h]; rfl
theorem mem_set2 {W : World} {m : Nat} {a b c d : Int} (h : W.heap[m]? = some (.cells (memC a b c d) 23)) (x : Int) : (W.setCell ⟨m, 2, none⟩ (.int .i64 x)).heap[m]? = some (.cells (memC a b x d) 23) := by rw [setCell_heap h]; rfl
theorem mem_set3 {W : World} {m : Nat} {a b c d : Int} (h : W.heap[m]? = some (.cells (memC a b c d) 23)) (x : Int) : (W.setCell ⟨m, 3, none⟩ (.int .i64 x)).heap[m]? = some (.cells (memC a b c x) 23) := by rw [setCell_heap h]; rfl
theorem mem_lt {W : World} {m : Nat} {o : Obj} (h : W.heap[m]? = some o) : m < W.heap.size := by
  rcases Nat.lt_or_ge m W.heap.size with h1 | h1
  · exact h1
  · rw [Array.getElem?_eq_none h1] at h; simp at h
theorem dlast_w (r rm : Int) (w : World) (hr : Byte r) (hm : Byte rm) : Calls Try.prog 71 #[.int .i64 r, .int .i64 rm] w fun e w' => e = .returned (.int .i64 (lastD r rm)) ∧ w = w' := (dlast_any r rm w hr hm).mono fun _ _ ⟨a, b⟩ => ⟨a, b.symm⟩
theorem dmid_w (r rm : Int) (w : World) (hr : Byte r) (hm : Byte rm) : Calls Try.prog 70 #[.int .i64 r, .int .i64 rm] w fun e w' => e = .returned (.int .i64 (midD r rm)) ∧ w = w' := (dmid_any r rm w hr hm).mono fun _ _ ⟨a, b⟩ => ⟨a, b.symm⟩
theorem didx_w (r rm : Int) (w : World) (hr : Byte r) (hm : Byte rm) : Calls Try.prog 109 #[.int .i64 r, .int .i64 rm] w fun e w' => e = .returned (.int .i64 (idxD r rm)) ∧ w = w' := (didx_any r rm w hr hm).mono fun _ _ ⟨a, b⟩ => ⟨a, b.symm⟩
theorem mem_other {W : World} {m k : Nat} (hk : k ≠ m) (o : Nat) (x : Value) : (W.setCell ⟨m, o, none⟩ x).heap[k]? = W.heap[k]? := Below.heap_setCell _ _ _ _ hk
/-- The result's four cells, stored one by one. -/
theorem mem_res {W : World} {m : Nat} {a b c d : Int} (h : W.heap[m]? = some (.cells (memC a b c d) 23)) (x y z u : Int) :
    ((((W.setCell ⟨m, 0, none⟩ (.int .i64 x)).setCell ⟨m, 1, none⟩ (.int .i64 y)).setCell ⟨m, 2, none⟩ (.int .i64 z)).setCell ⟨m, 3, none⟩ (.int .i64 u)).heap[m]? = some (.cells (memC x y z u) 23) :=
  mem_set3 (mem_set2 (mem_set1 (mem_set0 h _) _) _) _
theorem drew_heap (W : World) (k : Nat) : W.drew.heap[k]? = W.heap[k]? := rfl
attribute [local irreducible] numD midD lastD idxD World.setCell World.drew
set_option maxHeartbeats 2000000 in
set_option maxRecDepth 100000 in
theorem dplace_0_0 (b : Nat) (s : ByteArray) (c : Cur) (r rm : Int) (w : World) (_h16 : s.size ≤ 1000000) (h : CurA w b s c) (hr : Byte r) (hm : Byte rm) (h4 : (rm % 8 == 4) = false) (d1 : (rm / 64 == 1) = false) (d2 : (rm / 64 == 2) = false) :
    Calls Try.prog 108 #[.pointer (some ⟨b, 0, none⟩), .int .i64 r, .int .i64 rm] w fun e w' =>
      e = .returned (.agg (memC (lastD r rm) (-1) 1 0)) ∧ CurA w' b s c ∧ KeepBut b w w' := by
  have e7 : bits BinOp.and IntKind.i64 rm 7 = rm % 8 := dand7 hm
  have hlt := h.lt
  have hne : b ≠ w.heap.size + 1 := by omega
  have hne0 : b ≠ w.heap.size := by omega
  go_enter Try.func108, Try.ntmps108
  go_wp2_with (first | (go_at_call 71; refine (dlast_w _ _ _ (by assumption) (by assumption)).mono ?_; rintro e w' ⟨rfl, rfl⟩))
  refine bodyPost_ret (v := .agg (memC (lastD r rm) (-1) 1 0)) (by unfold memC; simp [results, Try.results108, go_sem]) rfl ⟨rfl, ((h.alloc hlt _).alloc (by simp; omega) _), (((KeepBut.refl b w).alloc _).alloc _)⟩
set_option maxHeartbeats 2000000 in
set_option maxRecDepth 100000 in
theorem dplace_0_1 (b : Nat) (s : ByteArray) (c : Cur) (r rm : Int) (w : World) (h16 : s.size ≤ 1000000) (h : CurA w b s c) (hr : Byte r) (hm : Byte rm) (h4 : (rm % 8 == 4) = false) (d1 : (rm / 64 == 1) = true) :
    Calls Try.prog 108 #[.pointer (some ⟨b, 0, none⟩), .int .i64 r, .int .i64 rm] w fun e w' =>
      e = .returned (.agg (memC (lastD r rm) (-1) 1 (numD 1 c).1)) ∧ CurA w' b s (numD 1 c).2 ∧ KeepBut b w w' := by
  have e7 : bits BinOp.and IntKind.i64 rm 7 = rm % 8 := dand7 hm
  have hlt := h.lt
  have hne : b ≠ w.heap.size + 1 := by omega
  have hne0 : b ≠ w.heap.size := by omega
  go_enter Try.func108, Try.ntmps108
  go_wp2_with (first | (go_at_call 71; refine (dlast_w _ _ _ (by assumption) (by assumption)).mono ?_; rintro e w' ⟨rfl, rfl⟩))
  go_at_call 68
  refine (dnumber_1 b s c _ h16 ((h.alloc hlt _).alloc (by simp; omega) _)).mono ?_
  rintro e w2 ⟨rfl, hc2, hk2⟩
  have hK2 : KeepBut b w w2 := (((KeepBut.refl b w).alloc _).alloc _).trans hk2
  have Hm2 : w2.heap[w.heap.size + 1]? = some (.cells (memC (lastD r rm) (-1) 1 0) 23) := (hk2.block _ (mem_lt (heap_two _ _ _).2) (by omega)).trans (heap_two _ _ _).2
  have Hr2 : w2.heap[w.heap.size]? = some (.cells (memC 0 0 0 0) 23) := (hk2.block _ (mem_lt (heap_two _ _ _).1) (by omega)).trans (heap_two _ _ _).1
  obtain ⟨⟨m0, m1, m2, m3⟩, z0, z1, z2, z3⟩ := mem_facts Hm2
  obtain ⟨⟨r0, r1, r2, r3⟩, y0, y1, y2, y3⟩ := mem_facts Hr2
  clear hk2
  go_wp2_with fail
  have HR : (((((w2.setCell ⟨w.heap.size + 1, 3, none⟩ (.int .i64 ((numD 1 c).1))).setCell ⟨w.heap.size, 0, none⟩ (.int .i64 (lastD r rm))).setCell ⟨w.heap.size, 1, none⟩ (.int .i64 ((-1)))).setCell ⟨w.heap.size, 2, none⟩ (.int .i64 (1))).setCell ⟨w.heap.size, 3, none⟩ (.int .i64 ((numD 1 c).1))).heap[w.heap.size]? = some (.cells (memC (lastD r rm) ((-1)) (1) ((numD 1 c).1)) 23) := mem_res (W := (w2.setCell ⟨w.heap.size + 1, 3, none⟩ (.int .i64 ((numD 1 c).1)))) ((mem_other (by omega) _ _).trans Hr2) (lastD r rm) ((-1)) (1) ((numD 1 c).1)
  have HC : CurA (((((w2.setCell ⟨w.heap.size + 1, 3, none⟩ (.int .i64 ((numD 1 c).1))).setCell ⟨w.heap.size, 0, none⟩ (.int .i64 (lastD r rm))).setCell ⟨w.heap.size, 1, none⟩ (.int .i64 ((-1)))).setCell ⟨w.heap.size, 2, none⟩ (.int .i64 (1))).setCell ⟨w.heap.size, 3, none⟩ (.int .i64 ((numD 1 c).1))) b s _ := (((((hc2.set _ hne _).set _ hne0 _).set _ hne0 _).set _ hne0 _).set _ hne0 _)
  have HK : KeepBut b w (((((w2.setCell ⟨w.heap.size + 1, 3, none⟩ (.int .i64 ((numD 1 c).1))).setCell ⟨w.heap.size, 0, none⟩ (.int .i64 (lastD r rm))).setCell ⟨w.heap.size, 1, none⟩ (.int .i64 ((-1)))).setCell ⟨w.heap.size, 2, none⟩ (.int .i64 (1))).setCell ⟨w.heap.size, 3, none⟩ (.int .i64 ((numD 1 c).1))) := (((((hK2.setNew _ (by simp) _).setNew _ (by simp) _).setNew _ (by simp) _).setNew _ (by simp) _).setNew _ (by simp) _)
  generalize (((((w2.setCell ⟨w.heap.size + 1, 3, none⟩ (.int .i64 ((numD 1 c).1))).setCell ⟨w.heap.size, 0, none⟩ (.int .i64 (lastD r rm))).setCell ⟨w.heap.size, 1, none⟩ (.int .i64 ((-1)))).setCell ⟨w.heap.size, 2, none⟩ (.int .i64 (1))).setCell ⟨w.heap.size, 3, none⟩ (.int .i64 ((numD 1 c).1))) = WF at HR HC HK ⊢
  obtain ⟨⟨q0, q1, q2, q3⟩, _⟩ := mem_facts HR
  refine bodyPost_ret (v := .agg (memC (lastD r rm) ((-1)) (1) ((numD 1 c).1))) (by unfold memC; simp [results, Try.results108, go_sem, q0, q1, q2, q3]) rfl ⟨rfl, HC, HK⟩
set_option maxHeartbeats 2000000 in
set_option maxRecDepth 100000 in
theorem dplace_0_4 (b : Nat) (s : ByteArray) (c : Cur) (r rm : Int) (w : World) (h16 : s.size ≤ 1000000) (h : CurA w b s c) (hr : Byte r) (hm : Byte rm) (h4 : (rm % 8 == 4) = false) (d1 : (rm / 64 == 1) = false) (d2 : (rm / 64 == 2) = true) :
    Calls Try.prog 108 #[.pointer (some ⟨b, 0, none⟩), .int .i64 r, .int .i64 rm] w fun e w' =>
      e = .returned (.agg (memC (lastD r rm) (-1) 1 (numD 4 c).1)) ∧ CurA w' b s (numD 4 c).2 ∧ KeepBut b w w' := by
  have e7 : bits BinOp.and IntKind.i64 rm 7 = rm % 8 := dand7 hm
  have hlt := h.lt
  have hne : b ≠ w.heap.size + 1 := by omega
  have hne0 : b ≠ w.heap.size := by omega
  go_enter Try.func108, Try.ntmps108
  go_wp2_with (first | (go_at_call 71; refine (dlast_w _ _ _ (by assumption) (by assumption)).mono ?_; rintro e w' ⟨rfl, rfl⟩))
  go_at_call 68
  refine (dnumber_4 b s c _ h16 ((h.alloc hlt _).alloc (by simp; omega) _)).mono ?_
  rintro e w2 ⟨rfl, hc2, hk2⟩
  have hK2 : KeepBut b w w2 := (((KeepBut.refl b w).alloc _).alloc _).trans hk2
  have Hm2 : w2.heap[w.heap.size + 1]? = some (.cells (memC (lastD r rm) (-1) 1 0) 23) := (hk2.block _ (mem_lt (heap_two _ _ _).2) (by omega)).trans (heap_two _ _ _).2
  have Hr2 : w2.heap[w.heap.size]? = some (.cells (memC 0 0 0 0) 23) := (hk2.block _ (mem_lt (heap_two _ _ _).1) (by omega)).trans (heap_two _ _ _).1
  obtain ⟨⟨m0, m1, m2, m3⟩, z0, z1, z2, z3⟩ := mem_facts Hm2
  obtain ⟨⟨r0, r1, r2, r3⟩, y0, y1, y2, y3⟩ := mem_facts Hr2
  clear hk2
  go_wp2_with fail
  have HR : (((((w2.setCell ⟨w.heap.size + 1, 3, none⟩ (.int .i64 ((numD 4 c).1))).setCell ⟨w.heap.size, 0, none⟩ (.int .i64 (lastD r rm))).setCell ⟨w.heap.size, 1, none⟩ (.int .i64 ((-1)))).setCell ⟨w.heap.size, 2, none⟩ (.int .i64 (1))).setCell ⟨w.heap.size, 3, none⟩ (.int .i64 ((numD 4 c).1))).heap[w.heap.size]? = some (.cells (memC (lastD r rm) ((-1)) (1) ((numD 4 c).1)) 23) := mem_res (W := (w2.setCell ⟨w.heap.size + 1, 3, none⟩ (.int .i64 ((numD 4 c).1)))) ((mem_other (by omega) _ _).trans Hr2) (lastD r rm) ((-1)) (1) ((numD 4 c).1)
  have HC : CurA (((((w2.setCell ⟨w.heap.size + 1, 3, none⟩ (.int .i64 ((numD 4 c).1))).setCell ⟨w.heap.size, 0, none⟩ (.int .i64 (lastD r rm))).setCell ⟨w.heap.size, 1, none⟩ (.int .i64 ((-1)))).setCell ⟨w.heap.size, 2, none⟩ (.int .i64 (1))).setCell ⟨w.heap.size, 3, none⟩ (.int .i64 ((numD 4 c).1))) b s _ := (((((hc2.set _ hne _).set _ hne0 _).set _ hne0 _).set _ hne0 _).set _ hne0 _)
  have HK : KeepBut b w (((((w2.setCell ⟨w.heap.size + 1, 3, none⟩ (.int .i64 ((numD 4 c).1))).setCell ⟨w.heap.size, 0, none⟩ (.int .i64 (lastD r rm))).setCell ⟨w.heap.size, 1, none⟩ (.int .i64 ((-1)))).setCell ⟨w.heap.size, 2, none⟩ (.int .i64 (1))).setCell ⟨w.heap.size, 3, none⟩ (.int .i64 ((numD 4 c).1))) := (((((hK2.setNew _ (by simp) _).setNew _ (by simp) _).setNew _ (by simp) _).setNew _ (by simp) _).setNew _ (by simp) _)
  generalize (((((w2.setCell ⟨w.heap.size + 1, 3, none⟩ (.int .i64 ((numD 4 c).1))).setCell ⟨w.heap.size, 0, none⟩ (.int .i64 (lastD r rm))).setCell ⟨w.heap.size, 1, none⟩ (.int .i64 ((-1)))).setCell ⟨w.heap.size, 2, none⟩ (.int .i64 (1))).setCell ⟨w.heap.size, 3, none⟩ (.int .i64 ((numD 4 c).1))) = WF at HR HC HK ⊢
  obtain ⟨⟨q0, q1, q2, q3⟩, _⟩ := mem_facts HR
  refine bodyPost_ret (v := .agg (memC (lastD r rm) ((-1)) (1) ((numD 4 c).1))) (by unfold memC; simp [results, Try.results108, go_sem, q0, q1, q2, q3]) rfl ⟨rfl, HC, HK⟩
set_option maxHeartbeats 2000000 in
set_option maxRecDepth 100000 in
theorem dplace_sn_0 (b : Nat) (s : ByteArray) (c : Cur) (r rm : Int) (w : World) (h16 : s.size ≤ 1000000) (h : CurA w b s c) (hr : Byte r) (hm : Byte rm) (h4 : (rm % 8 == 4) = true) (hx : (idxD r (nx c).1 != 4) = false) (d1 : (rm / 64 == 1) = false) (d2 : (rm / 64 == 2) = false) :
    Calls Try.prog 108 #[.pointer (some ⟨b, 0, none⟩), .int .i64 r, .int .i64 rm] w fun e w' =>
      e = .returned (.agg (memC (lastD r (nx c).1) (-1) 1 0)) ∧ CurA w' b s (nx c).2 ∧ KeepBut b w w' := by
  have e7 : bits BinOp.and IntKind.i64 rm 7 = rm % 8 := dand7 hm
  have hlt := h.lt
  have hne : b ≠ w.heap.size + 1 := by omega
  have hne0 : b ≠ w.heap.size := by omega
  have hsib := cur_byte h
  obtain ⟨x, hxe⟩ : ∃ x, (nx c).1 = x := ⟨_, rfl⟩
  rw [hxe] at hx hsib ⊢
  go_enter Try.func108, Try.ntmps108
  go_wp2_with (first | (go_at_call 71; refine (dlast_w _ _ _ (by assumption) (by assumption)).mono ?_; rintro e w' ⟨rfl, rfl⟩))
  go_at_call 67
  refine (dbyte_any b s c _ h16 ((h.alloc hlt _).alloc (by simp; omega) _)).mono ?_
  rw [hxe]
  rintro e w1 ⟨rfl, hc1, hk1⟩
  have Hm : w1.heap[w.heap.size + 1]? = some (.cells (memC (lastD r rm) (-1) 1 0) 23) := (hk1.block _ (by simp) (by omega)).trans (heap_two _ _ _).2
  have Hr : w1.heap[w.heap.size]? = some (.cells (memC 0 0 0 0) 23) := (hk1.block _ (by simp; omega) (by omega)).trans (heap_two _ _ _).1
  have hK : KeepBut b w w1 := (((KeepBut.refl b w).alloc _).alloc _).trans hk1
  obtain ⟨⟨m0, m1, m2, m3⟩, z0, z1, z2, z3⟩ := mem_facts Hm
  obtain ⟨⟨r0, r1, r2, r3⟩, y0, y1, y2, y3⟩ := mem_facts Hr
  clear hk1
  go_wp2_with (first | (go_at_call 71; refine (dlast_w _ _ _ (by assumption) (by assumption)).mono ?_; rintro e w' ⟨rfl, rfl⟩) | (go_at_call 109; refine (didx_w _ _ _ (by assumption) (by assumption)).mono ?_; rintro e w' ⟨rfl, rfl⟩))
  have HR : (((((w1.setCell ⟨w.heap.size + 1, 0, none⟩ (.int .i64 (lastD r x))).setCell ⟨w.heap.size, 0, none⟩ (.int .i64 (lastD r x))).setCell ⟨w.heap.size, 1, none⟩ (.int .i64 ((-1)))).setCell ⟨w.heap.size, 2, none⟩ (.int .i64 (1))).setCell ⟨w.heap.size, 3, none⟩ (.int .i64 (0))).heap[w.heap.size]? = some (.cells (memC (lastD r x) ((-1)) (1) (0)) 23) := mem_res (W := (w1.setCell ⟨w.heap.size + 1, 0, none⟩ (.int .i64 (lastD r x)))) ((mem_other (by omega) _ _).trans Hr) (lastD r x) ((-1)) (1) (0)
  have HC : CurA (((((w1.setCell ⟨w.heap.size + 1, 0, none⟩ (.int .i64 (lastD r x))).setCell ⟨w.heap.size, 0, none⟩ (.int .i64 (lastD r x))).setCell ⟨w.heap.size, 1, none⟩ (.int .i64 ((-1)))).setCell ⟨w.heap.size, 2, none⟩ (.int .i64 (1))).setCell ⟨w.heap.size, 3, none⟩ (.int .i64 (0))) b s _ := (((((hc1.set _ hne _).set _ hne0 _).set _ hne0 _).set _ hne0 _).set _ hne0 _)
  have HK : KeepBut b w (((((w1.setCell ⟨w.heap.size + 1, 0, none⟩ (.int .i64 (lastD r x))).setCell ⟨w.heap.size, 0, none⟩ (.int .i64 (lastD r x))).setCell ⟨w.heap.size, 1, none⟩ (.int .i64 ((-1)))).setCell ⟨w.heap.size, 2, none⟩ (.int .i64 (1))).setCell ⟨w.heap.size, 3, none⟩ (.int .i64 (0))) := (((((hK.setNew _ (by simp) _).setNew _ (by simp) _).setNew _ (by simp) _).setNew _ (by simp) _).setNew _ (by simp) _)
  generalize (((((w1.setCell ⟨w.heap.size + 1, 0, none⟩ (.int .i64 (lastD r x))).setCell ⟨w.heap.size, 0, none⟩ (.int .i64 (lastD r x))).setCell ⟨w.heap.size, 1, none⟩ (.int .i64 ((-1)))).setCell ⟨w.heap.size, 2, none⟩ (.int .i64 (1))).setCell ⟨w.heap.size, 3, none⟩ (.int .i64 (0))) = WF at HR HC HK ⊢
  obtain ⟨⟨q0, q1, q2, q3⟩, _⟩ := mem_facts HR
  refine bodyPost_ret (v := .agg (memC (lastD r x) ((-1)) (1) (0))) (by unfold memC; simp [results, Try.results108, go_sem, q0, q1, q2, q3]) rfl ⟨rfl, HC, HK⟩
set_option maxHeartbeats 2000000 in
set_option maxRecDepth 100000 in
theorem dplace_sn_1 (b : Nat) (s : ByteArray) (c : Cur) (r rm : Int) (w : World) (h16 : s.size ≤ 1000000) (h : CurA w b s c) (hr : Byte r) (hm : Byte rm) (h4 : (rm % 8 == 4) = true) (hx : (idxD r (nx c).1 != 4) = false) (d1 : (rm / 64 == 1) = true) :
    Calls Try.prog 108 #[.pointer (some ⟨b, 0, none⟩), .int .i64 r, .int .i64 rm] w fun e w' =>
      e = .returned (.agg (memC (lastD r (nx c).1) (-1) 1 (numD 1 (nx c).2).1)) ∧ CurA w' b s (numD 1 (nx c).2).2 ∧ KeepBut b w w' := by
  have e7 : bits BinOp.and IntKind.i64 rm 7 = rm % 8 := dand7 hm
  have hlt := h.lt
  have hne : b ≠ w.heap.size + 1 := by omega
  have hne0 : b ≠ w.heap.size := by omega
  have hsib := cur_byte h
  obtain ⟨x, hxe⟩ : ∃ x, (nx c).1 = x := ⟨_, rfl⟩
  rw [hxe] at hx hsib ⊢
  go_enter Try.func108, Try.ntmps108
  go_wp2_with (first | (go_at_call 71; refine (dlast_w _ _ _ (by assumption) (by assumption)).mono ?_; rintro e w' ⟨rfl, rfl⟩))
  go_at_call 67
  refine (dbyte_any b s c _ h16 ((h.alloc hlt _).alloc (by simp; omega) _)).mono ?_
  rw [hxe]
  rintro e w1 ⟨rfl, hc1, hk1⟩
  have Hm : w1.heap[w.heap.size + 1]? = some (.cells (memC (lastD r rm) (-1) 1 0) 23) := (hk1.block _ (by simp) (by omega)).trans (heap_two _ _ _).2
  have Hr : w1.heap[w.heap.size]? = some (.cells (memC 0 0 0 0) 23) := (hk1.block _ (by simp; omega) (by omega)).trans (heap_two _ _ _).1
  have hK : KeepBut b w w1 := (((KeepBut.refl b w).alloc _).alloc _).trans hk1
  obtain ⟨⟨m0, m1, m2, m3⟩, z0, z1, z2, z3⟩ := mem_facts Hm
  obtain ⟨⟨r0, r1, r2, r3⟩, y0, y1, y2, y3⟩ := mem_facts Hr
  clear hk1
  go_wp2_with (first | (go_at_call 71; refine (dlast_w _ _ _ (by assumption) (by assumption)).mono ?_; rintro e w' ⟨rfl, rfl⟩) | (go_at_call 109; refine (didx_w _ _ _ (by assumption) (by assumption)).mono ?_; rintro e w' ⟨rfl, rfl⟩))
  go_at_call 68
  refine (dnumber_1 b s (nx c).2 _ h16 (hc1.set _ hne _)).mono ?_
  rintro e w2 ⟨rfl, hc2, hk2⟩
  have hK2 : KeepBut b w w2 := (hK.setNew _ (by simp) _).trans hk2
  have Hm2 : w2.heap[w.heap.size + 1]? = some (.cells (memC (lastD r x) (-1) 1 0) 23) := (hk2.block _ (mem_lt (mem_set0 Hm _)) (by omega)).trans (mem_set0 Hm _)
  have Hr2 : w2.heap[w.heap.size]? = some (.cells (memC 0 0 0 0) 23) := (hk2.block _ (mem_lt ((mem_other (by omega) _ _).trans Hr)) (by omega)).trans ((mem_other (by omega) _ _).trans Hr)
  clear m0 m1 m2 m3 z0 z1 z2 z3 r0 r1 r2 r3 y0 y1 y2 y3
  obtain ⟨⟨m0, m1, m2, m3⟩, z0, z1, z2, z3⟩ := mem_facts Hm2
  obtain ⟨⟨r0, r1, r2, r3⟩, y0, y1, y2, y3⟩ := mem_facts Hr2
  clear hk2
  go_wp2_with fail
  have HR : (((((w2.setCell ⟨w.heap.size + 1, 3, none⟩ (.int .i64 ((numD 1 (nx c).2).1))).setCell ⟨w.heap.size, 0, none⟩ (.int .i64 (lastD r x))).setCell ⟨w.heap.size, 1, none⟩ (.int .i64 ((-1)))).setCell ⟨w.heap.size, 2, none⟩ (.int .i64 (1))).setCell ⟨w.heap.size, 3, none⟩ (.int .i64 ((numD 1 (nx c).2).1))).heap[w.heap.size]? = some (.cells (memC (lastD r x) ((-1)) (1) ((numD 1 (nx c).2).1)) 23) := mem_res (W := (w2.setCell ⟨w.heap.size + 1, 3, none⟩ (.int .i64 ((numD 1 (nx c).2).1)))) ((mem_other (by omega) _ _).trans Hr2) (lastD r x) ((-1)) (1) ((numD 1 (nx c).2).1)
  have HC : CurA (((((w2.setCell ⟨w.heap.size + 1, 3, none⟩ (.int .i64 ((numD 1 (nx c).2).1))).setCell ⟨w.heap.size, 0, none⟩ (.int .i64 (lastD r x))).setCell ⟨w.heap.size, 1, none⟩ (.int .i64 ((-1)))).setCell ⟨w.heap.size, 2, none⟩ (.int .i64 (1))).setCell ⟨w.heap.size, 3, none⟩ (.int .i64 ((numD 1 (nx c).2).1))) b s _ := (((((hc2.set _ hne _).set _ hne0 _).set _ hne0 _).set _ hne0 _).set _ hne0 _)
  have HK : KeepBut b w (((((w2.setCell ⟨w.heap.size + 1, 3, none⟩ (.int .i64 ((numD 1 (nx c).2).1))).setCell ⟨w.heap.size, 0, none⟩ (.int .i64 (lastD r x))).setCell ⟨w.heap.size, 1, none⟩ (.int .i64 ((-1)))).setCell ⟨w.heap.size, 2, none⟩ (.int .i64 (1))).setCell ⟨w.heap.size, 3, none⟩ (.int .i64 ((numD 1 (nx c).2).1))) := (((((hK2.setNew _ (by simp) _).setNew _ (by simp) _).setNew _ (by simp) _).setNew _ (by simp) _).setNew _ (by simp) _)
  generalize (((((w2.setCell ⟨w.heap.size + 1, 3, none⟩ (.int .i64 ((numD 1 (nx c).2).1))).setCell ⟨w.heap.size, 0, none⟩ (.int .i64 (lastD r x))).setCell ⟨w.heap.size, 1, none⟩ (.int .i64 ((-1)))).setCell ⟨w.heap.size, 2, none⟩ (.int .i64 (1))).setCell ⟨w.heap.size, 3, none⟩ (.int .i64 ((numD 1 (nx c).2).1))) = WF at HR HC HK ⊢
  obtain ⟨⟨q0, q1, q2, q3⟩, _⟩ := mem_facts HR
  refine bodyPost_ret (v := .agg (memC (lastD r x) ((-1)) (1) ((numD 1 (nx c).2).1))) (by unfold memC; simp [results, Try.results108, go_sem, q0, q1, q2, q3]) rfl ⟨rfl, HC, HK⟩
set_option maxHeartbeats 2000000 in
set_option maxRecDepth 100000 in
theorem dplace_sn_4 (b : Nat) (s : ByteArray) (c : Cur) (r rm : Int) (w : World) (h16 : s.size ≤ 1000000) (h : CurA w b s c) (hr : Byte r) (hm : Byte rm) (h4 : (rm % 8 == 4) = true) (hx : (idxD r (nx c).1 != 4) = false) (d1 : (rm / 64 == 1) = false) (d2 : (rm / 64 == 2) = true) :
    Calls Try.prog 108 #[.pointer (some ⟨b, 0, none⟩), .int .i64 r, .int .i64 rm] w fun e w' =>
      e = .returned (.agg (memC (lastD r (nx c).1) (-1) 1 (numD 4 (nx c).2).1)) ∧ CurA w' b s (numD 4 (nx c).2).2 ∧ KeepBut b w w' := by
  have e7 : bits BinOp.and IntKind.i64 rm 7 = rm % 8 := dand7 hm
  have hlt := h.lt
  have hne : b ≠ w.heap.size + 1 := by omega
  have hne0 : b ≠ w.heap.size := by omega
  have hsib := cur_byte h
  obtain ⟨x, hxe⟩ : ∃ x, (nx c).1 = x := ⟨_, rfl⟩
  rw [hxe] at hx hsib ⊢
  go_enter Try.func108, Try.ntmps108
  go_wp2_with (first | (go_at_call 71; refine (dlast_w _ _ _ (by assumption) (by assumption)).mono ?_; rintro e w' ⟨rfl, rfl⟩))
  go_at_call 67
  refine (dbyte_any b s c _ h16 ((h.alloc hlt _).alloc (by simp; omega) _)).mono ?_
  rw [hxe]
  rintro e w1 ⟨rfl, hc1, hk1⟩
  have Hm : w1.heap[w.heap.size + 1]? = some (.cells (memC (lastD r rm) (-1) 1 0) 23) := (hk1.block _ (by simp) (by omega)).trans (heap_two _ _ _).2
  have Hr : w1.heap[w.heap.size]? = some (.cells (memC 0 0 0 0) 23) := (hk1.block _ (by simp; omega) (by omega)).trans (heap_two _ _ _).1
  have hK : KeepBut b w w1 := (((KeepBut.refl b w).alloc _).alloc _).trans hk1
  obtain ⟨⟨m0, m1, m2, m3⟩, z0, z1, z2, z3⟩ := mem_facts Hm
  obtain ⟨⟨r0, r1, r2, r3⟩, y0, y1, y2, y3⟩ := mem_facts Hr
  clear hk1
  go_wp2_with (first | (go_at_call 71; refine (dlast_w _ _ _ (by assumption) (by assumption)).mono ?_; rintro e w' ⟨rfl, rfl⟩) | (go_at_call 109; refine (didx_w _ _ _ (by assumption) (by assumption)).mono ?_; rintro e w' ⟨rfl, rfl⟩))
  go_at_call 68
  refine (dnumber_4 b s (nx c).2 _ h16 (hc1.set _ hne _)).mono ?_
  rintro e w2 ⟨rfl, hc2, hk2⟩
  have hK2 : KeepBut b w w2 := (hK.setNew _ (by simp) _).trans hk2
  have Hm2 : w2.heap[w.heap.size + 1]? = some (.cells (memC (lastD r x) (-1) 1 0) 23) := (hk2.block _ (mem_lt (mem_set0 Hm _)) (by omega)).trans (mem_set0 Hm _)
  have Hr2 : w2.heap[w.heap.size]? = some (.cells (memC 0 0 0 0) 23) := (hk2.block _ (mem_lt ((mem_other (by omega) _ _).trans Hr)) (by omega)).trans ((mem_other (by omega) _ _).trans Hr)
  clear m0 m1 m2 m3 z0 z1 z2 z3 r0 r1 r2 r3 y0 y1 y2 y3
  obtain ⟨⟨m0, m1, m2, m3⟩, z0, z1, z2, z3⟩ := mem_facts Hm2
  obtain ⟨⟨r0, r1, r2, r3⟩, y0, y1, y2, y3⟩ := mem_facts Hr2
  clear hk2
  go_wp2_with fail
  have HR : (((((w2.setCell ⟨w.heap.size + 1, 3, none⟩ (.int .i64 ((numD 4 (nx c).2).1))).setCell ⟨w.heap.size, 0, none⟩ (.int .i64 (lastD r x))).setCell ⟨w.heap.size, 1, none⟩ (.int .i64 ((-1)))).setCell ⟨w.heap.size, 2, none⟩ (.int .i64 (1))).setCell ⟨w.heap.size, 3, none⟩ (.int .i64 ((numD 4 (nx c).2).1))).heap[w.heap.size]? = some (.cells (memC (lastD r x) ((-1)) (1) ((numD 4 (nx c).2).1)) 23) := mem_res (W := (w2.setCell ⟨w.heap.size + 1, 3, none⟩ (.int .i64 ((numD 4 (nx c).2).1)))) ((mem_other (by omega) _ _).trans Hr2) (lastD r x) ((-1)) (1) ((numD 4 (nx c).2).1)
  have HC : CurA (((((w2.setCell ⟨w.heap.size + 1, 3, none⟩ (.int .i64 ((numD 4 (nx c).2).1))).setCell ⟨w.heap.size, 0, none⟩ (.int .i64 (lastD r x))).setCell ⟨w.heap.size, 1, none⟩ (.int .i64 ((-1)))).setCell ⟨w.heap.size, 2, none⟩ (.int .i64 (1))).setCell ⟨w.heap.size, 3, none⟩ (.int .i64 ((numD 4 (nx c).2).1))) b s _ := (((((hc2.set _ hne _).set _ hne0 _).set _ hne0 _).set _ hne0 _).set _ hne0 _)
  have HK : KeepBut b w (((((w2.setCell ⟨w.heap.size + 1, 3, none⟩ (.int .i64 ((numD 4 (nx c).2).1))).setCell ⟨w.heap.size, 0, none⟩ (.int .i64 (lastD r x))).setCell ⟨w.heap.size, 1, none⟩ (.int .i64 ((-1)))).setCell ⟨w.heap.size, 2, none⟩ (.int .i64 (1))).setCell ⟨w.heap.size, 3, none⟩ (.int .i64 ((numD 4 (nx c).2).1))) := (((((hK2.setNew _ (by simp) _).setNew _ (by simp) _).setNew _ (by simp) _).setNew _ (by simp) _).setNew _ (by simp) _)
  generalize (((((w2.setCell ⟨w.heap.size + 1, 3, none⟩ (.int .i64 ((numD 4 (nx c).2).1))).setCell ⟨w.heap.size, 0, none⟩ (.int .i64 (lastD r x))).setCell ⟨w.heap.size, 1, none⟩ (.int .i64 ((-1)))).setCell ⟨w.heap.size, 2, none⟩ (.int .i64 (1))).setCell ⟨w.heap.size, 3, none⟩ (.int .i64 ((numD 4 (nx c).2).1))) = WF at HR HC HK ⊢
  obtain ⟨⟨q0, q1, q2, q3⟩, _⟩ := mem_facts HR
  refine bodyPost_ret (v := .agg (memC (lastD r x) ((-1)) (1) ((numD 4 (nx c).2).1))) (by unfold memC; simp [results, Try.results108, go_sem, q0, q1, q2, q3]) rfl ⟨rfl, HC, HK⟩
set_option maxHeartbeats 2000000 in
set_option maxRecDepth 100000 in
theorem dplace_s0_0 (b : Nat) (s : ByteArray) (c : Cur) (r rm : Int) (w : World) (h16 : s.size ≤ 1000000) (h : CurA w b s c) (hr : Byte r) (hm : Byte rm) (h4 : (rm % 8 == 4) = true) (hx : (idxD r (nx c).1 != 4) = true) (h64 : (nx c).1 / 64 = 0) (d1 : (rm / 64 == 1) = false) (d2 : (rm / 64 == 2) = false) :
    Calls Try.prog 108 #[.pointer (some ⟨b, 0, none⟩), .int .i64 r, .int .i64 rm] w fun e w' =>
      e = .returned (.agg (memC (lastD r (nx c).1) (idxD r (nx c).1) 1 0)) ∧ CurA w' b s (nx c).2 ∧ KeepBut b w w' := by
  have e7 : bits BinOp.and IntKind.i64 rm 7 = rm % 8 := dand7 hm
  have hlt := h.lt
  have hne : b ≠ w.heap.size + 1 := by omega
  have hne0 : b ≠ w.heap.size := by omega
  have hsib := cur_byte h
  obtain ⟨x, hxe⟩ : ∃ x, (nx c).1 = x := ⟨_, rfl⟩
  rw [hxe] at hx hsib ⊢
  rw [hxe] at h64
  go_enter Try.func108, Try.ntmps108
  go_wp2_with (first | (go_at_call 71; refine (dlast_w _ _ _ (by assumption) (by assumption)).mono ?_; rintro e w' ⟨rfl, rfl⟩))
  go_at_call 67
  refine (dbyte_any b s c _ h16 ((h.alloc hlt _).alloc (by simp; omega) _)).mono ?_
  rw [hxe]
  rintro e w1 ⟨rfl, hc1, hk1⟩
  have Hm : w1.heap[w.heap.size + 1]? = some (.cells (memC (lastD r rm) (-1) 1 0) 23) := (hk1.block _ (by simp) (by omega)).trans (heap_two _ _ _).2
  have Hr : w1.heap[w.heap.size]? = some (.cells (memC 0 0 0 0) 23) := (hk1.block _ (by simp; omega) (by omega)).trans (heap_two _ _ _).1
  have hK : KeepBut b w w1 := (((KeepBut.refl b w).alloc _).alloc _).trans hk1
  obtain ⟨⟨m0, m1, m2, m3⟩, z0, z1, z2, z3⟩ := mem_facts Hm
  obtain ⟨⟨r0, r1, r2, r3⟩, y0, y1, y2, y3⟩ := mem_facts Hr
  clear hk1
  go_wp2_with (first | (go_at_call 71; refine (dlast_w _ _ _ (by assumption) (by assumption)).mono ?_; rintro e w' ⟨rfl, rfl⟩) | (go_at_call 109; refine (didx_w _ _ _ (by assumption) (by assumption)).mono ?_; rintro e w' ⟨rfl, rfl⟩))
  go_region
  go_wp2_with fail
  have HR : (((((((w1.setCell ⟨w.heap.size + 1, 0, none⟩ (.int .i64 (lastD r x))).setCell ⟨w.heap.size + 1, 1, none⟩ (.int .i64 ((idxD r x)))).setCell ⟨w.heap.size + 1, 2, none⟩ (.int .i64 (1))).setCell ⟨w.heap.size, 0, none⟩ (.int .i64 (lastD r x))).setCell ⟨w.heap.size, 1, none⟩ (.int .i64 ((idxD r x)))).setCell ⟨w.heap.size, 2, none⟩ (.int .i64 (1))).setCell ⟨w.heap.size, 3, none⟩ (.int .i64 (0))).drew.heap[w.heap.size]? = some (.cells (memC (lastD r x) ((idxD r x)) (1) (0)) 23) := (drew_heap _ _).trans <| mem_res (W := (((w1.setCell ⟨w.heap.size + 1, 0, none⟩ (.int .i64 (lastD r x))).setCell ⟨w.heap.size + 1, 1, none⟩ (.int .i64 ((idxD r x)))).setCell ⟨w.heap.size + 1, 2, none⟩ (.int .i64 (1)))) ((mem_other (by omega) _ _).trans ((mem_other (by omega) _ _).trans ((mem_other (by omega) _ _).trans Hr))) (lastD r x) ((idxD r x)) (1) (0)
  have HC : CurA (((((((w1.setCell ⟨w.heap.size + 1, 0, none⟩ (.int .i64 (lastD r x))).setCell ⟨w.heap.size + 1, 1, none⟩ (.int .i64 ((idxD r x)))).setCell ⟨w.heap.size + 1, 2, none⟩ (.int .i64 (1))).setCell ⟨w.heap.size, 0, none⟩ (.int .i64 (lastD r x))).setCell ⟨w.heap.size, 1, none⟩ (.int .i64 ((idxD r x)))).setCell ⟨w.heap.size, 2, none⟩ (.int .i64 (1))).setCell ⟨w.heap.size, 3, none⟩ (.int .i64 (0))).drew b s _ := (((((((hc1.set _ hne _).set _ hne _).set _ hne _).set _ hne0 _).set _ hne0 _).set _ hne0 _).set _ hne0 _).dr
  have HK : KeepBut b w (((((((w1.setCell ⟨w.heap.size + 1, 0, none⟩ (.int .i64 (lastD r x))).setCell ⟨w.heap.size + 1, 1, none⟩ (.int .i64 ((idxD r x)))).setCell ⟨w.heap.size + 1, 2, none⟩ (.int .i64 (1))).setCell ⟨w.heap.size, 0, none⟩ (.int .i64 (lastD r x))).setCell ⟨w.heap.size, 1, none⟩ (.int .i64 ((idxD r x)))).setCell ⟨w.heap.size, 2, none⟩ (.int .i64 (1))).setCell ⟨w.heap.size, 3, none⟩ (.int .i64 (0))).drew := (((((((hK.setNew _ (by simp) _).setNew _ (by simp) _).setNew _ (by simp) _).setNew _ (by simp) _).setNew _ (by simp) _).setNew _ (by simp) _).setNew _ (by simp) _).dr
  generalize (((((((w1.setCell ⟨w.heap.size + 1, 0, none⟩ (.int .i64 (lastD r x))).setCell ⟨w.heap.size + 1, 1, none⟩ (.int .i64 ((idxD r x)))).setCell ⟨w.heap.size + 1, 2, none⟩ (.int .i64 (1))).setCell ⟨w.heap.size, 0, none⟩ (.int .i64 (lastD r x))).setCell ⟨w.heap.size, 1, none⟩ (.int .i64 ((idxD r x)))).setCell ⟨w.heap.size, 2, none⟩ (.int .i64 (1))).setCell ⟨w.heap.size, 3, none⟩ (.int .i64 (0))).drew = WF at HR HC HK ⊢
  obtain ⟨⟨q0, q1, q2, q3⟩, _⟩ := mem_facts HR
  refine bodyPost_ret (v := .agg (memC (lastD r x) ((idxD r x)) (1) (0))) (by unfold memC; simp [results, Try.results108, go_sem, q0, q1, q2, q3]) rfl ⟨rfl, HC, HK⟩
set_option maxHeartbeats 2000000 in
set_option maxRecDepth 100000 in
theorem dplace_s0_1 (b : Nat) (s : ByteArray) (c : Cur) (r rm : Int) (w : World) (h16 : s.size ≤ 1000000) (h : CurA w b s c) (hr : Byte r) (hm : Byte rm) (h4 : (rm % 8 == 4) = true) (hx : (idxD r (nx c).1 != 4) = true) (h64 : (nx c).1 / 64 = 0) (d1 : (rm / 64 == 1) = true) :
    Calls Try.prog 108 #[.pointer (some ⟨b, 0, none⟩), .int .i64 r, .int .i64 rm] w fun e w' =>
      e = .returned (.agg (memC (lastD r (nx c).1) (idxD r (nx c).1) 1 (numD 1 (nx c).2).1)) ∧ CurA w' b s (numD 1 (nx c).2).2 ∧ KeepBut b w w' := by
  have e7 : bits BinOp.and IntKind.i64 rm 7 = rm % 8 := dand7 hm
  have hlt := h.lt
  have hne : b ≠ w.heap.size + 1 := by omega
  have hne0 : b ≠ w.heap.size := by omega
  have hsib := cur_byte h
  obtain ⟨x, hxe⟩ : ∃ x, (nx c).1 = x := ⟨_, rfl⟩
  rw [hxe] at hx hsib ⊢
  rw [hxe] at h64
  go_enter Try.func108, Try.ntmps108
  go_wp2_with (first | (go_at_call 71; refine (dlast_w _ _ _ (by assumption) (by assumption)).mono ?_; rintro e w' ⟨rfl, rfl⟩))
  go_at_call 67
  refine (dbyte_any b s c _ h16 ((h.alloc hlt _).alloc (by simp; omega) _)).mono ?_
  rw [hxe]
  rintro e w1 ⟨rfl, hc1, hk1⟩
  have Hm : w1.heap[w.heap.size + 1]? = some (.cells (memC (lastD r rm) (-1) 1 0) 23) := (hk1.block _ (by simp) (by omega)).trans (heap_two _ _ _).2
  have Hr : w1.heap[w.heap.size]? = some (.cells (memC 0 0 0 0) 23) := (hk1.block _ (by simp; omega) (by omega)).trans (heap_two _ _ _).1
  have hK : KeepBut b w w1 := (((KeepBut.refl b w).alloc _).alloc _).trans hk1
  obtain ⟨⟨m0, m1, m2, m3⟩, z0, z1, z2, z3⟩ := mem_facts Hm
  obtain ⟨⟨r0, r1, r2, r3⟩, y0, y1, y2, y3⟩ := mem_facts Hr
  clear hk1
  go_wp2_with (first | (go_at_call 71; refine (dlast_w _ _ _ (by assumption) (by assumption)).mono ?_; rintro e w' ⟨rfl, rfl⟩) | (go_at_call 109; refine (didx_w _ _ _ (by assumption) (by assumption)).mono ?_; rintro e w' ⟨rfl, rfl⟩))
  go_region
  go_wp2_with fail
  go_at_call 68
  refine (dnumber_1 b s (nx c).2 _ h16 (((hc1.set _ hne _).set _ hne _).set _ hne _).dr).mono ?_
  rintro e w2 ⟨rfl, hc2, hk2⟩
  have hK2 : KeepBut b w w2 := (((hK.setNew _ (by simp) _).setNew _ (by simp) _).setNew _ (by simp) _).dr.trans hk2
  have Hm2 : w2.heap[w.heap.size + 1]? = some (.cells (memC (lastD r x) (idxD r x) 1 0) 23) := (hk2.block _ (mem_lt ((drew_heap _ _).trans (mem_set2 (mem_set1 (mem_set0 Hm _) _) _))) (by omega)).trans ((drew_heap _ _).trans (mem_set2 (mem_set1 (mem_set0 Hm _) _) _))
  have Hr2 : w2.heap[w.heap.size]? = some (.cells (memC 0 0 0 0) 23) := (hk2.block _ (mem_lt ((drew_heap _ _).trans ((mem_other (by omega) _ _).trans ((mem_other (by omega) _ _).trans ((mem_other (by omega) _ _).trans Hr))))) (by omega)).trans ((drew_heap _ _).trans ((mem_other (by omega) _ _).trans ((mem_other (by omega) _ _).trans ((mem_other (by omega) _ _).trans Hr))))
  clear m0 m1 m2 m3 z0 z1 z2 z3 r0 r1 r2 r3 y0 y1 y2 y3
  obtain ⟨⟨m0, m1, m2, m3⟩, z0, z1, z2, z3⟩ := mem_facts Hm2
  obtain ⟨⟨r0, r1, r2, r3⟩, y0, y1, y2, y3⟩ := mem_facts Hr2
  clear hk2
  go_wp2_with fail
  have HR : (((((w2.setCell ⟨w.heap.size + 1, 3, none⟩ (.int .i64 ((numD 1 (nx c).2).1))).setCell ⟨w.heap.size, 0, none⟩ (.int .i64 (lastD r x))).setCell ⟨w.heap.size, 1, none⟩ (.int .i64 ((idxD r x)))).setCell ⟨w.heap.size, 2, none⟩ (.int .i64 (1))).setCell ⟨w.heap.size, 3, none⟩ (.int .i64 ((numD 1 (nx c).2).1))).heap[w.heap.size]? = some (.cells (memC (lastD r x) ((idxD r x)) (1) ((numD 1 (nx c).2).1)) 23) := mem_res (W := (w2.setCell ⟨w.heap.size + 1, 3, none⟩ (.int .i64 ((numD 1 (nx c).2).1)))) ((mem_other (by omega) _ _).trans Hr2) (lastD r x) ((idxD r x)) (1) ((numD 1 (nx c).2).1)
  have HC : CurA (((((w2.setCell ⟨w.heap.size + 1, 3, none⟩ (.int .i64 ((numD 1 (nx c).2).1))).setCell ⟨w.heap.size, 0, none⟩ (.int .i64 (lastD r x))).setCell ⟨w.heap.size, 1, none⟩ (.int .i64 ((idxD r x)))).setCell ⟨w.heap.size, 2, none⟩ (.int .i64 (1))).setCell ⟨w.heap.size, 3, none⟩ (.int .i64 ((numD 1 (nx c).2).1))) b s _ := (((((hc2.set _ hne _).set _ hne0 _).set _ hne0 _).set _ hne0 _).set _ hne0 _)
  have HK : KeepBut b w (((((w2.setCell ⟨w.heap.size + 1, 3, none⟩ (.int .i64 ((numD 1 (nx c).2).1))).setCell ⟨w.heap.size, 0, none⟩ (.int .i64 (lastD r x))).setCell ⟨w.heap.size, 1, none⟩ (.int .i64 ((idxD r x)))).setCell ⟨w.heap.size, 2, none⟩ (.int .i64 (1))).setCell ⟨w.heap.size, 3, none⟩ (.int .i64 ((numD 1 (nx c).2).1))) := (((((hK2.setNew _ (by simp) _).setNew _ (by simp) _).setNew _ (by simp) _).setNew _ (by simp) _).setNew _ (by simp) _)
  generalize (((((w2.setCell ⟨w.heap.size + 1, 3, none⟩ (.int .i64 ((numD 1 (nx c).2).1))).setCell ⟨w.heap.size, 0, none⟩ (.int .i64 (lastD r x))).setCell ⟨w.heap.size, 1, none⟩ (.int .i64 ((idxD r x)))).setCell ⟨w.heap.size, 2, none⟩ (.int .i64 (1))).setCell ⟨w.heap.size, 3, none⟩ (.int .i64 ((numD 1 (nx c).2).1))) = WF at HR HC HK ⊢
  obtain ⟨⟨q0, q1, q2, q3⟩, _⟩ := mem_facts HR
  refine bodyPost_ret (v := .agg (memC (lastD r x) ((idxD r x)) (1) ((numD 1 (nx c).2).1))) (by unfold memC; simp [results, Try.results108, go_sem, q0, q1, q2, q3]) rfl ⟨rfl, HC, HK⟩
set_option maxHeartbeats 2000000 in
set_option maxRecDepth 100000 in
theorem dplace_s0_4 (b : Nat) (s : ByteArray) (c : Cur) (r rm : Int) (w : World) (h16 : s.size ≤ 1000000) (h : CurA w b s c) (hr : Byte r) (hm : Byte rm) (h4 : (rm % 8 == 4) = true) (hx : (idxD r (nx c).1 != 4) = true) (h64 : (nx c).1 / 64 = 0) (d1 : (rm / 64 == 1) = false) (d2 : (rm / 64 == 2) = true) :
    Calls Try.prog 108 #[.pointer (some ⟨b, 0, none⟩), .int .i64 r, .int .i64 rm] w fun e w' =>
      e = .returned (.agg (memC (lastD r (nx c).1) (idxD r (nx c).1) 1 (numD 4 (nx c).2).1)) ∧ CurA w' b s (numD 4 (nx c).2).2 ∧ KeepBut b w w' := by
  have e7 : bits BinOp.and IntKind.i64 rm 7 = rm % 8 := dand7 hm
  have hlt := h.lt
  have hne : b ≠ w.heap.size + 1 := by omega
  have hne0 : b ≠ w.heap.size := by omega
  have hsib := cur_byte h
  obtain ⟨x, hxe⟩ : ∃ x, (nx c).1 = x := ⟨_, rfl⟩
  rw [hxe] at hx hsib ⊢
  rw [hxe] at h64
  go_enter Try.func108, Try.ntmps108
  go_wp2_with (first | (go_at_call 71; refine (dlast_w _ _ _ (by assumption) (by assumption)).mono ?_; rintro e w' ⟨rfl, rfl⟩))
  go_at_call 67
  refine (dbyte_any b s c _ h16 ((h.alloc hlt _).alloc (by simp; omega) _)).mono ?_
  rw [hxe]
  rintro e w1 ⟨rfl, hc1, hk1⟩
  have Hm : w1.heap[w.heap.size + 1]? = some (.cells (memC (lastD r rm) (-1) 1 0) 23) := (hk1.block _ (by simp) (by omega)).trans (heap_two _ _ _).2
  have Hr : w1.heap[w.heap.size]? = some (.cells (memC 0 0 0 0) 23) := (hk1.block _ (by simp; omega) (by omega)).trans (heap_two _ _ _).1
  have hK : KeepBut b w w1 := (((KeepBut.refl b w).alloc _).alloc _).trans hk1
  obtain ⟨⟨m0, m1, m2, m3⟩, z0, z1, z2, z3⟩ := mem_facts Hm
  obtain ⟨⟨r0, r1, r2, r3⟩, y0, y1, y2, y3⟩ := mem_facts Hr
  clear hk1
  go_wp2_with (first | (go_at_call 71; refine (dlast_w _ _ _ (by assumption) (by assumption)).mono ?_; rintro e w' ⟨rfl, rfl⟩) | (go_at_call 109; refine (didx_w _ _ _ (by assumption) (by assumption)).mono ?_; rintro e w' ⟨rfl, rfl⟩))
  go_region
  go_wp2_with fail
  go_at_call 68
  refine (dnumber_4 b s (nx c).2 _ h16 (((hc1.set _ hne _).set _ hne _).set _ hne _).dr).mono ?_
  rintro e w2 ⟨rfl, hc2, hk2⟩
  have hK2 : KeepBut b w w2 := (((hK.setNew _ (by simp) _).setNew _ (by simp) _).setNew _ (by simp) _).dr.trans hk2
  have Hm2 : w2.heap[w.heap.size + 1]? = some (.cells (memC (lastD r x) (idxD r x) 1 0) 23) := (hk2.block _ (mem_lt ((drew_heap _ _).trans (mem_set2 (mem_set1 (mem_set0 Hm _) _) _))) (by omega)).trans ((drew_heap _ _).trans (mem_set2 (mem_set1 (mem_set0 Hm _) _) _))
  have Hr2 : w2.heap[w.heap.size]? = some (.cells (memC 0 0 0 0) 23) := (hk2.block _ (mem_lt ((drew_heap _ _).trans ((mem_other (by omega) _ _).trans ((mem_other (by omega) _ _).trans ((mem_other (by omega) _ _).trans Hr))))) (by omega)).trans ((drew_heap _ _).trans ((mem_other (by omega) _ _).trans ((mem_other (by omega) _ _).trans ((mem_other (by omega) _ _).trans Hr))))
  clear m0 m1 m2 m3 z0 z1 z2 z3 r0 r1 r2 r3 y0 y1 y2 y3
  obtain ⟨⟨m0, m1, m2, m3⟩, z0, z1, z2, z3⟩ := mem_facts Hm2
  obtain ⟨⟨r0, r1, r2, r3⟩, y0, y1, y2, y3⟩ := mem_facts Hr2
  clear hk2
  go_wp2_with fail
  have HR : (((((w2.setCell ⟨w.heap.size + 1, 3, none⟩ (.int .i64 ((numD 4 (nx c).2).1))).setCell ⟨w.heap.size, 0, none⟩ (.int .i64 (lastD r x))).setCell ⟨w.heap.size, 1, none⟩ (.int .i64 ((idxD r x)))).setCell ⟨w.heap.size, 2, none⟩ (.int .i64 (1))).setCell ⟨w.heap.size, 3, none⟩ (.int .i64 ((numD 4 (nx c).2).1))).heap[w.heap.size]? = some (.cells (memC (lastD r x) ((idxD r x)) (1) ((numD 4 (nx c).2).1)) 23) := mem_res (W := (w2.setCell ⟨w.heap.size + 1, 3, none⟩ (.int .i64 ((numD 4 (nx c).2).1)))) ((mem_other (by omega) _ _).trans Hr2) (lastD r x) ((idxD r x)) (1) ((numD 4 (nx c).2).1)
  have HC : CurA (((((w2.setCell ⟨w.heap.size + 1, 3, none⟩ (.int .i64 ((numD 4 (nx c).2).1))).setCell ⟨w.heap.size, 0, none⟩ (.int .i64 (lastD r x))).setCell ⟨w.heap.size, 1, none⟩ (.int .i64 ((idxD r x)))).setCell ⟨w.heap.size, 2, none⟩ (.int .i64 (1))).setCell ⟨w.heap.size, 3, none⟩ (.int .i64 ((numD 4 (nx c).2).1))) b s _ := (((((hc2.set _ hne _).set _ hne0 _).set _ hne0 _).set _ hne0 _).set _ hne0 _)
  have HK : KeepBut b w (((((w2.setCell ⟨w.heap.size + 1, 3, none⟩ (.int .i64 ((numD 4 (nx c).2).1))).setCell ⟨w.heap.size, 0, none⟩ (.int .i64 (lastD r x))).setCell ⟨w.heap.size, 1, none⟩ (.int .i64 ((idxD r x)))).setCell ⟨w.heap.size, 2, none⟩ (.int .i64 (1))).setCell ⟨w.heap.size, 3, none⟩ (.int .i64 ((numD 4 (nx c).2).1))) := (((((hK2.setNew _ (by simp) _).setNew _ (by simp) _).setNew _ (by simp) _).setNew _ (by simp) _).setNew _ (by simp) _)
  generalize (((((w2.setCell ⟨w.heap.size + 1, 3, none⟩ (.int .i64 ((numD 4 (nx c).2).1))).setCell ⟨w.heap.size, 0, none⟩ (.int .i64 (lastD r x))).setCell ⟨w.heap.size, 1, none⟩ (.int .i64 ((idxD r x)))).setCell ⟨w.heap.size, 2, none⟩ (.int .i64 (1))).setCell ⟨w.heap.size, 3, none⟩ (.int .i64 ((numD 4 (nx c).2).1))) = WF at HR HC HK ⊢
  obtain ⟨⟨q0, q1, q2, q3⟩, _⟩ := mem_facts HR
  refine bodyPost_ret (v := .agg (memC (lastD r x) ((idxD r x)) (1) ((numD 4 (nx c).2).1))) (by unfold memC; simp [results, Try.results108, go_sem, q0, q1, q2, q3]) rfl ⟨rfl, HC, HK⟩
set_option maxHeartbeats 2000000 in
set_option maxRecDepth 100000 in
theorem dplace_s1_0 (b : Nat) (s : ByteArray) (c : Cur) (r rm : Int) (w : World) (h16 : s.size ≤ 1000000) (h : CurA w b s c) (hr : Byte r) (hm : Byte rm) (h4 : (rm % 8 == 4) = true) (hx : (idxD r (nx c).1 != 4) = true) (h64 : (nx c).1 / 64 = 1) (d1 : (rm / 64 == 1) = false) (d2 : (rm / 64 == 2) = false) :
    Calls Try.prog 108 #[.pointer (some ⟨b, 0, none⟩), .int .i64 r, .int .i64 rm] w fun e w' =>
      e = .returned (.agg (memC (lastD r (nx c).1) (idxD r (nx c).1) 2 0)) ∧ CurA w' b s (nx c).2 ∧ KeepBut b w w' := by
  have e7 : bits BinOp.and IntKind.i64 rm 7 = rm % 8 := dand7 hm
  have hlt := h.lt
  have hne : b ≠ w.heap.size + 1 := by omega
  have hne0 : b ≠ w.heap.size := by omega
  have hsib := cur_byte h
  obtain ⟨x, hxe⟩ : ∃ x, (nx c).1 = x := ⟨_, rfl⟩
  rw [hxe] at hx hsib ⊢
  rw [hxe] at h64
  go_enter Try.func108, Try.ntmps108
  go_wp2_with (first | (go_at_call 71; refine (dlast_w _ _ _ (by assumption) (by assumption)).mono ?_; rintro e w' ⟨rfl, rfl⟩))
  go_at_call 67
  refine (dbyte_any b s c _ h16 ((h.alloc hlt _).alloc (by simp; omega) _)).mono ?_
  rw [hxe]
  rintro e w1 ⟨rfl, hc1, hk1⟩
  have Hm : w1.heap[w.heap.size + 1]? = some (.cells (memC (lastD r rm) (-1) 1 0) 23) := (hk1.block _ (by simp) (by omega)).trans (heap_two _ _ _).2
  have Hr : w1.heap[w.heap.size]? = some (.cells (memC 0 0 0 0) 23) := (hk1.block _ (by simp; omega) (by omega)).trans (heap_two _ _ _).1
  have hK : KeepBut b w w1 := (((KeepBut.refl b w).alloc _).alloc _).trans hk1
  obtain ⟨⟨m0, m1, m2, m3⟩, z0, z1, z2, z3⟩ := mem_facts Hm
  obtain ⟨⟨r0, r1, r2, r3⟩, y0, y1, y2, y3⟩ := mem_facts Hr
  clear hk1
  go_wp2_with (first | (go_at_call 71; refine (dlast_w _ _ _ (by assumption) (by assumption)).mono ?_; rintro e w' ⟨rfl, rfl⟩) | (go_at_call 109; refine (didx_w _ _ _ (by assumption) (by assumption)).mono ?_; rintro e w' ⟨rfl, rfl⟩))
  go_region
  go_wp2_with fail
  have HR : (((((((w1.setCell ⟨w.heap.size + 1, 0, none⟩ (.int .i64 (lastD r x))).setCell ⟨w.heap.size + 1, 1, none⟩ (.int .i64 ((idxD r x)))).setCell ⟨w.heap.size + 1, 2, none⟩ (.int .i64 (2))).setCell ⟨w.heap.size, 0, none⟩ (.int .i64 (lastD r x))).setCell ⟨w.heap.size, 1, none⟩ (.int .i64 ((idxD r x)))).setCell ⟨w.heap.size, 2, none⟩ (.int .i64 (2))).setCell ⟨w.heap.size, 3, none⟩ (.int .i64 (0))).drew.heap[w.heap.size]? = some (.cells (memC (lastD r x) ((idxD r x)) (2) (0)) 23) := (drew_heap _ _).trans <| mem_res (W := (((w1.setCell ⟨w.heap.size + 1, 0, none⟩ (.int .i64 (lastD r x))).setCell ⟨w.heap.size + 1, 1, none⟩ (.int .i64 ((idxD r x)))).setCell ⟨w.heap.size + 1, 2, none⟩ (.int .i64 (2)))) ((mem_other (by omega) _ _).trans ((mem_other (by omega) _ _).trans ((mem_other (by omega) _ _).trans Hr))) (lastD r x) ((idxD r x)) (2) (0)
  have HC : CurA (((((((w1.setCell ⟨w.heap.size + 1, 0, none⟩ (.int .i64 (lastD r x))).setCell ⟨w.heap.size + 1, 1, none⟩ (.int .i64 ((idxD r x)))).setCell ⟨w.heap.size + 1, 2, none⟩ (.int .i64 (2))).setCell ⟨w.heap.size, 0, none⟩ (.int .i64 (lastD r x))).setCell ⟨w.heap.size, 1, none⟩ (.int .i64 ((idxD r x)))).setCell ⟨w.heap.size, 2, none⟩ (.int .i64 (2))).setCell ⟨w.heap.size, 3, none⟩ (.int .i64 (0))).drew b s _ := (((((((hc1.set _ hne _).set _ hne _).set _ hne _).set _ hne0 _).set _ hne0 _).set _ hne0 _).set _ hne0 _).dr
  have HK : KeepBut b w (((((((w1.setCell ⟨w.heap.size + 1, 0, none⟩ (.int .i64 (lastD r x))).setCell ⟨w.heap.size + 1, 1, none⟩ (.int .i64 ((idxD r x)))).setCell ⟨w.heap.size + 1, 2, none⟩ (.int .i64 (2))).setCell ⟨w.heap.size, 0, none⟩ (.int .i64 (lastD r x))).setCell ⟨w.heap.size, 1, none⟩ (.int .i64 ((idxD r x)))).setCell ⟨w.heap.size, 2, none⟩ (.int .i64 (2))).setCell ⟨w.heap.size, 3, none⟩ (.int .i64 (0))).drew := (((((((hK.setNew _ (by simp) _).setNew _ (by simp) _).setNew _ (by simp) _).setNew _ (by simp) _).setNew _ (by simp) _).setNew _ (by simp) _).setNew _ (by simp) _).dr
  generalize (((((((w1.setCell ⟨w.heap.size + 1, 0, none⟩ (.int .i64 (lastD r x))).setCell ⟨w.heap.size + 1, 1, none⟩ (.int .i64 ((idxD r x)))).setCell ⟨w.heap.size + 1, 2, none⟩ (.int .i64 (2))).setCell ⟨w.heap.size, 0, none⟩ (.int .i64 (lastD r x))).setCell ⟨w.heap.size, 1, none⟩ (.int .i64 ((idxD r x)))).setCell ⟨w.heap.size, 2, none⟩ (.int .i64 (2))).setCell ⟨w.heap.size, 3, none⟩ (.int .i64 (0))).drew = WF at HR HC HK ⊢
  obtain ⟨⟨q0, q1, q2, q3⟩, _⟩ := mem_facts HR
  refine bodyPost_ret (v := .agg (memC (lastD r x) ((idxD r x)) (2) (0))) (by unfold memC; simp [results, Try.results108, go_sem, q0, q1, q2, q3]) rfl ⟨rfl, HC, HK⟩
set_option maxHeartbeats 2000000 in
set_option maxRecDepth 100000 in
theorem dplace_s1_1 (b : Nat) (s : ByteArray) (c : Cur) (r rm : Int) (w : World) (h16 : s.size ≤ 1000000) (h : CurA w b s c) (hr : Byte r) (hm : Byte rm) (h4 : (rm % 8 == 4) = true) (hx : (idxD r (nx c).1 != 4) = true) (h64 : (nx c).1 / 64 = 1) (d1 : (rm / 64 == 1) = true) :
    Calls Try.prog 108 #[.pointer (some ⟨b, 0, none⟩), .int .i64 r, .int .i64 rm] w fun e w' =>
      e = .returned (.agg (memC (lastD r (nx c).1) (idxD r (nx c).1) 2 (numD 1 (nx c).2).1)) ∧ CurA w' b s (numD 1 (nx c).2).2 ∧ KeepBut b w w' := by
  have e7 : bits BinOp.and IntKind.i64 rm 7 = rm % 8 := dand7 hm
  have hlt := h.lt
  have hne : b ≠ w.heap.size + 1 := by omega
  have hne0 : b ≠ w.heap.size := by omega
  have hsib := cur_byte h
  obtain ⟨x, hxe⟩ : ∃ x, (nx c).1 = x := ⟨_, rfl⟩
  rw [hxe] at hx hsib ⊢
  rw [hxe] at h64
  go_enter Try.func108, Try.ntmps108
  go_wp2_with (first | (go_at_call 71; refine (dlast_w _ _ _ (by assumption) (by assumption)).mono ?_; rintro e w' ⟨rfl, rfl⟩))
  go_at_call 67
  refine (dbyte_any b s c _ h16 ((h.alloc hlt _).alloc (by simp; omega) _)).mono ?_
  rw [hxe]
  rintro e w1 ⟨rfl, hc1, hk1⟩
  have Hm : w1.heap[w.heap.size + 1]? = some (.cells (memC (lastD r rm) (-1) 1 0) 23) := (hk1.block _ (by simp) (by omega)).trans (heap_two _ _ _).2
  have Hr : w1.heap[w.heap.size]? = some (.cells (memC 0 0 0 0) 23) := (hk1.block _ (by simp; omega) (by omega)).trans (heap_two _ _ _).1
  have hK : KeepBut b w w1 := (((KeepBut.refl b w).alloc _).alloc _).trans hk1
  obtain ⟨⟨m0, m1, m2, m3⟩, z0, z1, z2, z3⟩ := mem_facts Hm
  obtain ⟨⟨r0, r1, r2, r3⟩, y0, y1, y2, y3⟩ := mem_facts Hr
  clear hk1
  go_wp2_with (first | (go_at_call 71; refine (dlast_w _ _ _ (by assumption) (by assumption)).mono ?_; rintro e w' ⟨rfl, rfl⟩) | (go_at_call 109; refine (didx_w _ _ _ (by assumption) (by assumption)).mono ?_; rintro e w' ⟨rfl, rfl⟩))
  go_region
  go_wp2_with fail
  go_at_call 68
  refine (dnumber_1 b s (nx c).2 _ h16 (((hc1.set _ hne _).set _ hne _).set _ hne _).dr).mono ?_
  rintro e w2 ⟨rfl, hc2, hk2⟩
  have hK2 : KeepBut b w w2 := (((hK.setNew _ (by simp) _).setNew _ (by simp) _).setNew _ (by simp) _).dr.trans hk2
  have Hm2 : w2.heap[w.heap.size + 1]? = some (.cells (memC (lastD r x) (idxD r x) 2 0) 23) := (hk2.block _ (mem_lt ((drew_heap _ _).trans (mem_set2 (mem_set1 (mem_set0 Hm _) _) _))) (by omega)).trans ((drew_heap _ _).trans (mem_set2 (mem_set1 (mem_set0 Hm _) _) _))
  have Hr2 : w2.heap[w.heap.size]? = some (.cells (memC 0 0 0 0) 23) := (hk2.block _ (mem_lt ((drew_heap _ _).trans ((mem_other (by omega) _ _).trans ((mem_other (by omega) _ _).trans ((mem_other (by omega) _ _).trans Hr))))) (by omega)).trans ((drew_heap _ _).trans ((mem_other (by omega) _ _).trans ((mem_other (by omega) _ _).trans ((mem_other (by omega) _ _).trans Hr))))
  clear m0 m1 m2 m3 z0 z1 z2 z3 r0 r1 r2 r3 y0 y1 y2 y3
  obtain ⟨⟨m0, m1, m2, m3⟩, z0, z1, z2, z3⟩ := mem_facts Hm2
  obtain ⟨⟨r0, r1, r2, r3⟩, y0, y1, y2, y3⟩ := mem_facts Hr2
  clear hk2
  go_wp2_with fail
  have HR : (((((w2.setCell ⟨w.heap.size + 1, 3, none⟩ (.int .i64 ((numD 1 (nx c).2).1))).setCell ⟨w.heap.size, 0, none⟩ (.int .i64 (lastD r x))).setCell ⟨w.heap.size, 1, none⟩ (.int .i64 ((idxD r x)))).setCell ⟨w.heap.size, 2, none⟩ (.int .i64 (2))).setCell ⟨w.heap.size, 3, none⟩ (.int .i64 ((numD 1 (nx c).2).1))).heap[w.heap.size]? = some (.cells (memC (lastD r x) ((idxD r x)) (2) ((numD 1 (nx c).2).1)) 23) := mem_res (W := (w2.setCell ⟨w.heap.size + 1, 3, none⟩ (.int .i64 ((numD 1 (nx c).2).1)))) ((mem_other (by omega) _ _).trans Hr2) (lastD r x) ((idxD r x)) (2) ((numD 1 (nx c).2).1)
  have HC : CurA (((((w2.setCell ⟨w.heap.size + 1, 3, none⟩ (.int .i64 ((numD 1 (nx c).2).1))).setCell ⟨w.heap.size, 0, none⟩ (.int .i64 (lastD r x))).setCell ⟨w.heap.size, 1, none⟩ (.int .i64 ((idxD r x)))).setCell ⟨w.heap.size, 2, none⟩ (.int .i64 (2))).setCell ⟨w.heap.size, 3, none⟩ (.int .i64 ((numD 1 (nx c).2).1))) b s _ := (((((hc2.set _ hne _).set _ hne0 _).set _ hne0 _).set _ hne0 _).set _ hne0 _)
  have HK : KeepBut b w (((((w2.setCell ⟨w.heap.size + 1, 3, none⟩ (.int .i64 ((numD 1 (nx c).2).1))).setCell ⟨w.heap.size, 0, none⟩ (.int .i64 (lastD r x))).setCell ⟨w.heap.size, 1, none⟩ (.int .i64 ((idxD r x)))).setCell ⟨w.heap.size, 2, none⟩ (.int .i64 (2))).setCell ⟨w.heap.size, 3, none⟩ (.int .i64 ((numD 1 (nx c).2).1))) := (((((hK2.setNew _ (by simp) _).setNew _ (by simp) _).setNew _ (by simp) _).setNew _ (by simp) _).setNew _ (by simp) _)
  generalize (((((w2.setCell ⟨w.heap.size + 1, 3, none⟩ (.int .i64 ((numD 1 (nx c).2).1))).setCell ⟨w.heap.size, 0, none⟩ (.int .i64 (lastD r x))).setCell ⟨w.heap.size, 1, none⟩ (.int .i64 ((idxD r x)))).setCell ⟨w.heap.size, 2, none⟩ (.int .i64 (2))).setCell ⟨w.heap.size, 3, none⟩ (.int .i64 ((numD 1 (nx c).2).1))) = WF at HR HC HK ⊢
  obtain ⟨⟨q0, q1, q2, q3⟩, _⟩ := mem_facts HR
  refine bodyPost_ret (v := .agg (memC (lastD r x) ((idxD r x)) (2) ((numD 1 (nx c).2).1))) (by unfold memC; simp [results, Try.results108, go_sem, q0, q1, q2, q3]) rfl ⟨rfl, HC, HK⟩
set_option maxHeartbeats 2000000 in
set_option maxRecDepth 100000 in
theorem dplace_s1_4 (b : Nat) (s : ByteArray) (c : Cur) (r rm : Int) (w : World) (h16 : s.size ≤ 1000000) (h : CurA w b s c) (hr : Byte r) (hm : Byte rm) (h4 : (rm % 8 == 4) = true) (hx : (idxD r (nx c).1 != 4) = true) (h64 : (nx c).1 / 64 = 1) (d1 : (rm / 64 == 1) = false) (d2 : (rm / 64 == 2) = true) :
    Calls Try.prog 108 #[.pointer (some ⟨b, 0, none⟩), .int .i64 r, .int .i64 rm] w fun e w' =>
      e = .returned (.agg (memC (lastD r (nx c).1) (idxD r (nx c).1) 2 (numD 4 (nx c).2).1)) ∧ CurA w' b s (numD 4 (nx c).2).2 ∧ KeepBut b w w' := by
  have e7 : bits BinOp.and IntKind.i64 rm 7 = rm % 8 := dand7 hm
  have hlt := h.lt
  have hne : b ≠ w.heap.size + 1 := by omega
  have hne0 : b ≠ w.heap.size := by omega
  have hsib := cur_byte h
  obtain ⟨x, hxe⟩ : ∃ x, (nx c).1 = x := ⟨_, rfl⟩
  rw [hxe] at hx hsib ⊢
  rw [hxe] at h64
  go_enter Try.func108, Try.ntmps108
  go_wp2_with (first | (go_at_call 71; refine (dlast_w _ _ _ (by assumption) (by assumption)).mono ?_; rintro e w' ⟨rfl, rfl⟩))
  go_at_call 67
  refine (dbyte_any b s c _ h16 ((h.alloc hlt _).alloc (by simp; omega) _)).mono ?_
  rw [hxe]
  rintro e w1 ⟨rfl, hc1, hk1⟩
  have Hm : w1.heap[w.heap.size + 1]? = some (.cells (memC (lastD r rm) (-1) 1 0) 23) := (hk1.block _ (by simp) (by omega)).trans (heap_two _ _ _).2
  have Hr : w1.heap[w.heap.size]? = some (.cells (memC 0 0 0 0) 23) := (hk1.block _ (by simp; omega) (by omega)).trans (heap_two _ _ _).1
  have hK : KeepBut b w w1 := (((KeepBut.refl b w).alloc _).alloc _).trans hk1
  obtain ⟨⟨m0, m1, m2, m3⟩, z0, z1, z2, z3⟩ := mem_facts Hm
  obtain ⟨⟨r0, r1, r2, r3⟩, y0, y1, y2, y3⟩ := mem_facts Hr
  clear hk1
  go_wp2_with (first | (go_at_call 71; refine (dlast_w _ _ _ (by assumption) (by assumption)).mono ?_; rintro e w' ⟨rfl, rfl⟩) | (go_at_call 109; refine (didx_w _ _ _ (by assumption) (by assumption)).mono ?_; rintro e w' ⟨rfl, rfl⟩))
  go_region
  go_wp2_with fail
  go_at_call 68
  refine (dnumber_4 b s (nx c).2 _ h16 (((hc1.set _ hne _).set _ hne _).set _ hne _).dr).mono ?_
  rintro e w2 ⟨rfl, hc2, hk2⟩
  have hK2 : KeepBut b w w2 := (((hK.setNew _ (by simp) _).setNew _ (by simp) _).setNew _ (by simp) _).dr.trans hk2
  have Hm2 : w2.heap[w.heap.size + 1]? = some (.cells (memC (lastD r x) (idxD r x) 2 0) 23) := (hk2.block _ (mem_lt ((drew_heap _ _).trans (mem_set2 (mem_set1 (mem_set0 Hm _) _) _))) (by omega)).trans ((drew_heap _ _).trans (mem_set2 (mem_set1 (mem_set0 Hm _) _) _))
  have Hr2 : w2.heap[w.heap.size]? = some (.cells (memC 0 0 0 0) 23) := (hk2.block _ (mem_lt ((drew_heap _ _).trans ((mem_other (by omega) _ _).trans ((mem_other (by omega) _ _).trans ((mem_other (by omega) _ _).trans Hr))))) (by omega)).trans ((drew_heap _ _).trans ((mem_other (by omega) _ _).trans ((mem_other (by omega) _ _).trans ((mem_other (by omega) _ _).trans Hr))))
  clear m0 m1 m2 m3 z0 z1 z2 z3 r0 r1 r2 r3 y0 y1 y2 y3
  obtain ⟨⟨m0, m1, m2, m3⟩, z0, z1, z2, z3⟩ := mem_facts Hm2
  obtain ⟨⟨r0, r1, r2, r3⟩, y0, y1, y2, y3⟩ := mem_facts Hr2
  clear hk2
  go_wp2_with fail
  have HR : (((((w2.setCell ⟨w.heap.size + 1, 3, none⟩ (.int .i64 ((numD 4 (nx c).2).1))).setCell ⟨w.heap.size, 0, none⟩ (.int .i64 (lastD r x))).setCell ⟨w.heap.size, 1, none⟩ (.int .i64 ((idxD r x)))).setCell ⟨w.heap.size, 2, none⟩ (.int .i64 (2))).setCell ⟨w.heap.size, 3, none⟩ (.int .i64 ((numD 4 (nx c).2).1))).heap[w.heap.size]? = some (.cells (memC (lastD r x) ((idxD r x)) (2) ((numD 4 (nx c).2).1)) 23) := mem_res (W := (w2.setCell ⟨w.heap.size + 1, 3, none⟩ (.int .i64 ((numD 4 (nx c).2).1)))) ((mem_other (by omega) _ _).trans Hr2) (lastD r x) ((idxD r x)) (2) ((numD 4 (nx c).2).1)
  have HC : CurA (((((w2.setCell ⟨w.heap.size + 1, 3, none⟩ (.int .i64 ((numD 4 (nx c).2).1))).setCell ⟨w.heap.size, 0, none⟩ (.int .i64 (lastD r x))).setCell ⟨w.heap.size, 1, none⟩ (.int .i64 ((idxD r x)))).setCell ⟨w.heap.size, 2, none⟩ (.int .i64 (2))).setCell ⟨w.heap.size, 3, none⟩ (.int .i64 ((numD 4 (nx c).2).1))) b s _ := (((((hc2.set _ hne _).set _ hne0 _).set _ hne0 _).set _ hne0 _).set _ hne0 _)
  have HK : KeepBut b w (((((w2.setCell ⟨w.heap.size + 1, 3, none⟩ (.int .i64 ((numD 4 (nx c).2).1))).setCell ⟨w.heap.size, 0, none⟩ (.int .i64 (lastD r x))).setCell ⟨w.heap.size, 1, none⟩ (.int .i64 ((idxD r x)))).setCell ⟨w.heap.size, 2, none⟩ (.int .i64 (2))).setCell ⟨w.heap.size, 3, none⟩ (.int .i64 ((numD 4 (nx c).2).1))) := (((((hK2.setNew _ (by simp) _).setNew _ (by simp) _).setNew _ (by simp) _).setNew _ (by simp) _).setNew _ (by simp) _)
  generalize (((((w2.setCell ⟨w.heap.size + 1, 3, none⟩ (.int .i64 ((numD 4 (nx c).2).1))).setCell ⟨w.heap.size, 0, none⟩ (.int .i64 (lastD r x))).setCell ⟨w.heap.size, 1, none⟩ (.int .i64 ((idxD r x)))).setCell ⟨w.heap.size, 2, none⟩ (.int .i64 (2))).setCell ⟨w.heap.size, 3, none⟩ (.int .i64 ((numD 4 (nx c).2).1))) = WF at HR HC HK ⊢
  obtain ⟨⟨q0, q1, q2, q3⟩, _⟩ := mem_facts HR
  refine bodyPost_ret (v := .agg (memC (lastD r x) ((idxD r x)) (2) ((numD 4 (nx c).2).1))) (by unfold memC; simp [results, Try.results108, go_sem, q0, q1, q2, q3]) rfl ⟨rfl, HC, HK⟩
set_option maxHeartbeats 2000000 in
set_option maxRecDepth 100000 in
theorem dplace_s2_0 (b : Nat) (s : ByteArray) (c : Cur) (r rm : Int) (w : World) (h16 : s.size ≤ 1000000) (h : CurA w b s c) (hr : Byte r) (hm : Byte rm) (h4 : (rm % 8 == 4) = true) (hx : (idxD r (nx c).1 != 4) = true) (h64 : (nx c).1 / 64 = 2) (d1 : (rm / 64 == 1) = false) (d2 : (rm / 64 == 2) = false) :
    Calls Try.prog 108 #[.pointer (some ⟨b, 0, none⟩), .int .i64 r, .int .i64 rm] w fun e w' =>
      e = .returned (.agg (memC (lastD r (nx c).1) (idxD r (nx c).1) 4 0)) ∧ CurA w' b s (nx c).2 ∧ KeepBut b w w' := by
  have e7 : bits BinOp.and IntKind.i64 rm 7 = rm % 8 := dand7 hm
  have hlt := h.lt
  have hne : b ≠ w.heap.size + 1 := by omega
  have hne0 : b ≠ w.heap.size := by omega
  have hsib := cur_byte h
  obtain ⟨x, hxe⟩ : ∃ x, (nx c).1 = x := ⟨_, rfl⟩
  rw [hxe] at hx hsib ⊢
  rw [hxe] at h64
  go_enter Try.func108, Try.ntmps108
  go_wp2_with (first | (go_at_call 71; refine (dlast_w _ _ _ (by assumption) (by assumption)).mono ?_; rintro e w' ⟨rfl, rfl⟩))
  go_at_call 67
  refine (dbyte_any b s c _ h16 ((h.alloc hlt _).alloc (by simp; omega) _)).mono ?_
  rw [hxe]
  rintro e w1 ⟨rfl, hc1, hk1⟩
  have Hm : w1.heap[w.heap.size + 1]? = some (.cells (memC (lastD r rm) (-1) 1 0) 23) := (hk1.block _ (by simp) (by omega)).trans (heap_two _ _ _).2
  have Hr : w1.heap[w.heap.size]? = some (.cells (memC 0 0 0 0) 23) := (hk1.block _ (by simp; omega) (by omega)).trans (heap_two _ _ _).1
  have hK : KeepBut b w w1 := (((KeepBut.refl b w).alloc _).alloc _).trans hk1
  obtain ⟨⟨m0, m1, m2, m3⟩, z0, z1, z2, z3⟩ := mem_facts Hm
  obtain ⟨⟨r0, r1, r2, r3⟩, y0, y1, y2, y3⟩ := mem_facts Hr
  clear hk1
  go_wp2_with (first | (go_at_call 71; refine (dlast_w _ _ _ (by assumption) (by assumption)).mono ?_; rintro e w' ⟨rfl, rfl⟩) | (go_at_call 109; refine (didx_w _ _ _ (by assumption) (by assumption)).mono ?_; rintro e w' ⟨rfl, rfl⟩))
  go_region
  go_wp2_with fail
  have HR : (((((((w1.setCell ⟨w.heap.size + 1, 0, none⟩ (.int .i64 (lastD r x))).setCell ⟨w.heap.size + 1, 1, none⟩ (.int .i64 ((idxD r x)))).setCell ⟨w.heap.size + 1, 2, none⟩ (.int .i64 (4))).setCell ⟨w.heap.size, 0, none⟩ (.int .i64 (lastD r x))).setCell ⟨w.heap.size, 1, none⟩ (.int .i64 ((idxD r x)))).setCell ⟨w.heap.size, 2, none⟩ (.int .i64 (4))).setCell ⟨w.heap.size, 3, none⟩ (.int .i64 (0))).drew.heap[w.heap.size]? = some (.cells (memC (lastD r x) ((idxD r x)) (4) (0)) 23) := (drew_heap _ _).trans <| mem_res (W := (((w1.setCell ⟨w.heap.size + 1, 0, none⟩ (.int .i64 (lastD r x))).setCell ⟨w.heap.size + 1, 1, none⟩ (.int .i64 ((idxD r x)))).setCell ⟨w.heap.size + 1, 2, none⟩ (.int .i64 (4)))) ((mem_other (by omega) _ _).trans ((mem_other (by omega) _ _).trans ((mem_other (by omega) _ _).trans Hr))) (lastD r x) ((idxD r x)) (4) (0)
  have HC : CurA (((((((w1.setCell ⟨w.heap.size + 1, 0, none⟩ (.int .i64 (lastD r x))).setCell ⟨w.heap.size + 1, 1, none⟩ (.int .i64 ((idxD r x)))).setCell ⟨w.heap.size + 1, 2, none⟩ (.int .i64 (4))).setCell ⟨w.heap.size, 0, none⟩ (.int .i64 (lastD r x))).setCell ⟨w.heap.size, 1, none⟩ (.int .i64 ((idxD r x)))).setCell ⟨w.heap.size, 2, none⟩ (.int .i64 (4))).setCell ⟨w.heap.size, 3, none⟩ (.int .i64 (0))).drew b s _ := (((((((hc1.set _ hne _).set _ hne _).set _ hne _).set _ hne0 _).set _ hne0 _).set _ hne0 _).set _ hne0 _).dr
  have HK : KeepBut b w (((((((w1.setCell ⟨w.heap.size + 1, 0, none⟩ (.int .i64 (lastD r x))).setCell ⟨w.heap.size + 1, 1, none⟩ (.int .i64 ((idxD r x)))).setCell ⟨w.heap.size + 1, 2, none⟩ (.int .i64 (4))).setCell ⟨w.heap.size, 0, none⟩ (.int .i64 (lastD r x))).setCell ⟨w.heap.size, 1, none⟩ (.int .i64 ((idxD r x)))).setCell ⟨w.heap.size, 2, none⟩ (.int .i64 (4))).setCell ⟨w.heap.size, 3, none⟩ (.int .i64 (0))).drew := (((((((hK.setNew _ (by simp) _).setNew _ (by simp) _).setNew _ (by simp) _).setNew _ (by simp) _).setNew _ (by simp) _).setNew _ (by simp) _).setNew _ (by simp) _).dr
  generalize (((((((w1.setCell ⟨w.heap.size + 1, 0, none⟩ (.int .i64 (lastD r x))).setCell ⟨w.heap.size + 1, 1, none⟩ (.int .i64 ((idxD r x)))).setCell ⟨w.heap.size + 1, 2, none⟩ (.int .i64 (4))).setCell ⟨w.heap.size, 0, none⟩ (.int .i64 (lastD r x))).setCell ⟨w.heap.size, 1, none⟩ (.int .i64 ((idxD r x)))).setCell ⟨w.heap.size, 2, none⟩ (.int .i64 (4))).setCell ⟨w.heap.size, 3, none⟩ (.int .i64 (0))).drew = WF at HR HC HK ⊢
  obtain ⟨⟨q0, q1, q2, q3⟩, _⟩ := mem_facts HR
  refine bodyPost_ret (v := .agg (memC (lastD r x) ((idxD r x)) (4) (0))) (by unfold memC; simp [results, Try.results108, go_sem, q0, q1, q2, q3]) rfl ⟨rfl, HC, HK⟩
set_option maxHeartbeats 2000000 in
set_option maxRecDepth 100000 in
theorem dplace_s2_1 (b : Nat) (s : ByteArray) (c : Cur) (r rm : Int) (w : World) (h16 : s.size ≤ 1000000) (h : CurA w b s c) (hr : Byte r) (hm : Byte rm) (h4 : (rm % 8 == 4) = true) (hx : (idxD r (nx c).1 != 4) = true) (h64 : (nx c).1 / 64 = 2) (d1 : (rm / 64 == 1) = true) :
    Calls Try.prog 108 #[.pointer (some ⟨b, 0, none⟩), .int .i64 r, .int .i64 rm] w fun e w' =>
      e = .returned (.agg (memC (lastD r (nx c).1) (idxD r (nx c).1) 4 (numD 1 (nx c).2).1)) ∧ CurA w' b s (numD 1 (nx c).2).2 ∧ KeepBut b w w' := by
  have e7 : bits BinOp.and IntKind.i64 rm 7 = rm % 8 := dand7 hm
  have hlt := h.lt
  have hne : b ≠ w.heap.size + 1 := by omega
  have hne0 : b ≠ w.heap.size := by omega
  have hsib := cur_byte h
  obtain ⟨x, hxe⟩ : ∃ x, (nx c).1 = x := ⟨_, rfl⟩
  rw [hxe] at hx hsib ⊢
  rw [hxe] at h64
  go_enter Try.func108, Try.ntmps108
  go_wp2_with (first | (go_at_call 71; refine (dlast_w _ _ _ (by assumption) (by assumption)).mono ?_; rintro e w' ⟨rfl, rfl⟩))
  go_at_call 67
  refine (dbyte_any b s c _ h16 ((h.alloc hlt _).alloc (by simp; omega) _)).mono ?_
  rw [hxe]
  rintro e w1 ⟨rfl, hc1, hk1⟩
  have Hm : w1.heap[w.heap.size + 1]? = some (.cells (memC (lastD r rm) (-1) 1 0) 23) := (hk1.block _ (by simp) (by omega)).trans (heap_two _ _ _).2
  have Hr : w1.heap[w.heap.size]? = some (.cells (memC 0 0 0 0) 23) := (hk1.block _ (by simp; omega) (by omega)).trans (heap_two _ _ _).1
  have hK : KeepBut b w w1 := (((KeepBut.refl b w).alloc _).alloc _).trans hk1
  obtain ⟨⟨m0, m1, m2, m3⟩, z0, z1, z2, z3⟩ := mem_facts Hm
  obtain ⟨⟨r0, r1, r2, r3⟩, y0, y1, y2, y3⟩ := mem_facts Hr
  clear hk1
  go_wp2_with (first | (go_at_call 71; refine (dlast_w _ _ _ (by assumption) (by assumption)).mono ?_; rintro e w' ⟨rfl, rfl⟩) | (go_at_call 109; refine (didx_w _ _ _ (by assumption) (by assumption)).mono ?_; rintro e w' ⟨rfl, rfl⟩))
  go_region
  go_wp2_with fail
  go_at_call 68
  refine (dnumber_1 b s (nx c).2 _ h16 (((hc1.set _ hne _).set _ hne _).set _ hne _).dr).mono ?_
  rintro e w2 ⟨rfl, hc2, hk2⟩
  have hK2 : KeepBut b w w2 := (((hK.setNew _ (by simp) _).setNew _ (by simp) _).setNew _ (by simp) _).dr.trans hk2
  have Hm2 : w2.heap[w.heap.size + 1]? = some (.cells (memC (lastD r x) (idxD r x) 4 0) 23) := (hk2.block _ (mem_lt ((drew_heap _ _).trans (mem_set2 (mem_set1 (mem_set0 Hm _) _) _))) (by omega)).trans ((drew_heap _ _).trans (mem_set2 (mem_set1 (mem_set0 Hm _) _) _))
  have Hr2 : w2.heap[w.heap.size]? = some (.cells (memC 0 0 0 0) 23) := (hk2.block _ (mem_lt ((drew_heap _ _).trans ((mem_other (by omega) _ _).trans ((mem_other (by omega) _ _).trans ((mem_other (by omega) _ _).trans Hr))))) (by omega)).trans ((drew_heap _ _).trans ((mem_other (by omega) _ _).trans ((mem_other (by omega) _ _).trans ((mem_other (by omega) _ _).trans Hr))))
  clear m0 m1 m2 m3 z0 z1 z2 z3 r0 r1 r2 r3 y0 y1 y2 y3
  obtain ⟨⟨m0, m1, m2, m3⟩, z0, z1, z2, z3⟩ := mem_facts Hm2
  obtain ⟨⟨r0, r1, r2, r3⟩, y0, y1, y2, y3⟩ := mem_facts Hr2
  clear hk2
  go_wp2_with fail
  have HR : (((((w2.setCell ⟨w.heap.size + 1, 3, none⟩ (.int .i64 ((numD 1 (nx c).2).1))).setCell ⟨w.heap.size, 0, none⟩ (.int .i64 (lastD r x))).setCell ⟨w.heap.size, 1, none⟩ (.int .i64 ((idxD r x)))).setCell ⟨w.heap.size, 2, none⟩ (.int .i64 (4))).setCell ⟨w.heap.size, 3, none⟩ (.int .i64 ((numD 1 (nx c).2).1))).heap[w.heap.size]? = some (.cells (memC (lastD r x) ((idxD r x)) (4) ((numD 1 (nx c).2).1)) 23) := mem_res (W := (w2.setCell ⟨w.heap.size + 1, 3, none⟩ (.int .i64 ((numD 1 (nx c).2).1)))) ((mem_other (by omega) _ _).trans Hr2) (lastD r x) ((idxD r x)) (4) ((numD 1 (nx c).2).1)
  have HC : CurA (((((w2.setCell ⟨w.heap.size + 1, 3, none⟩ (.int .i64 ((numD 1 (nx c).2).1))).setCell ⟨w.heap.size, 0, none⟩ (.int .i64 (lastD r x))).setCell ⟨w.heap.size, 1, none⟩ (.int .i64 ((idxD r x)))).setCell ⟨w.heap.size, 2, none⟩ (.int .i64 (4))).setCell ⟨w.heap.size, 3, none⟩ (.int .i64 ((numD 1 (nx c).2).1))) b s _ := (((((hc2.set _ hne _).set _ hne0 _).set _ hne0 _).set _ hne0 _).set _ hne0 _)
  have HK : KeepBut b w (((((w2.setCell ⟨w.heap.size + 1, 3, none⟩ (.int .i64 ((numD 1 (nx c).2).1))).setCell ⟨w.heap.size, 0, none⟩ (.int .i64 (lastD r x))).setCell ⟨w.heap.size, 1, none⟩ (.int .i64 ((idxD r x)))).setCell ⟨w.heap.size, 2, none⟩ (.int .i64 (4))).setCell ⟨w.heap.size, 3, none⟩ (.int .i64 ((numD 1 (nx c).2).1))) := (((((hK2.setNew _ (by simp) _).setNew _ (by simp) _).setNew _ (by simp) _).setNew _ (by simp) _).setNew _ (by simp) _)
  generalize (((((w2.setCell ⟨w.heap.size + 1, 3, none⟩ (.int .i64 ((numD 1 (nx c).2).1))).setCell ⟨w.heap.size, 0, none⟩ (.int .i64 (lastD r x))).setCell ⟨w.heap.size, 1, none⟩ (.int .i64 ((idxD r x)))).setCell ⟨w.heap.size, 2, none⟩ (.int .i64 (4))).setCell ⟨w.heap.size, 3, none⟩ (.int .i64 ((numD 1 (nx c).2).1))) = WF at HR HC HK ⊢
  obtain ⟨⟨q0, q1, q2, q3⟩, _⟩ := mem_facts HR
  refine bodyPost_ret (v := .agg (memC (lastD r x) ((idxD r x)) (4) ((numD 1 (nx c).2).1))) (by unfold memC; simp [results, Try.results108, go_sem, q0, q1, q2, q3]) rfl ⟨rfl, HC, HK⟩
set_option maxHeartbeats 2000000 in
set_option maxRecDepth 100000 in
theorem dplace_s2_4 (b : Nat) (s : ByteArray) (c : Cur) (r rm : Int) (w : World) (h16 : s.size ≤ 1000000) (h : CurA w b s c) (hr : Byte r) (hm : Byte rm) (h4 : (rm % 8 == 4) = true) (hx : (idxD r (nx c).1 != 4) = true) (h64 : (nx c).1 / 64 = 2) (d1 : (rm / 64 == 1) = false) (d2 : (rm / 64 == 2) = true) :
    Calls Try.prog 108 #[.pointer (some ⟨b, 0, none⟩), .int .i64 r, .int .i64 rm] w fun e w' =>
      e = .returned (.agg (memC (lastD r (nx c).1) (idxD r (nx c).1) 4 (numD 4 (nx c).2).1)) ∧ CurA w' b s (numD 4 (nx c).2).2 ∧ KeepBut b w w' := by
  have e7 : bits BinOp.and IntKind.i64 rm 7 = rm % 8 := dand7 hm
  have hlt := h.lt
  have hne : b ≠ w.heap.size + 1 := by omega
  have hne0 : b ≠ w.heap.size := by omega
  have hsib := cur_byte h
  obtain ⟨x, hxe⟩ : ∃ x, (nx c).1 = x := ⟨_, rfl⟩
  rw [hxe] at hx hsib ⊢
  rw [hxe] at h64
  go_enter Try.func108, Try.ntmps108
  go_wp2_with (first | (go_at_call 71; refine (dlast_w _ _ _ (by assumption) (by assumption)).mono ?_; rintro e w' ⟨rfl, rfl⟩))
  go_at_call 67
  refine (dbyte_any b s c _ h16 ((h.alloc hlt _).alloc (by simp; omega) _)).mono ?_
  rw [hxe]
  rintro e w1 ⟨rfl, hc1, hk1⟩
  have Hm : w1.heap[w.heap.size + 1]? = some (.cells (memC (lastD r rm) (-1) 1 0) 23) := (hk1.block _ (by simp) (by omega)).trans (heap_two _ _ _).2
  have Hr : w1.heap[w.heap.size]? = some (.cells (memC 0 0 0 0) 23) := (hk1.block _ (by simp; omega) (by omega)).trans (heap_two _ _ _).1
  have hK : KeepBut b w w1 := (((KeepBut.refl b w).alloc _).alloc _).trans hk1
  obtain ⟨⟨m0, m1, m2, m3⟩, z0, z1, z2, z3⟩ := mem_facts Hm
  obtain ⟨⟨r0, r1, r2, r3⟩, y0, y1, y2, y3⟩ := mem_facts Hr
  clear hk1
  go_wp2_with (first | (go_at_call 71; refine (dlast_w _ _ _ (by assumption) (by assumption)).mono ?_; rintro e w' ⟨rfl, rfl⟩) | (go_at_call 109; refine (didx_w _ _ _ (by assumption) (by assumption)).mono ?_; rintro e w' ⟨rfl, rfl⟩))
  go_region
  go_wp2_with fail
  go_at_call 68
  refine (dnumber_4 b s (nx c).2 _ h16 (((hc1.set _ hne _).set _ hne _).set _ hne _).dr).mono ?_
  rintro e w2 ⟨rfl, hc2, hk2⟩
  have hK2 : KeepBut b w w2 := (((hK.setNew _ (by simp) _).setNew _ (by simp) _).setNew _ (by simp) _).dr.trans hk2
  have Hm2 : w2.heap[w.heap.size + 1]? = some (.cells (memC (lastD r x) (idxD r x) 4 0) 23) := (hk2.block _ (mem_lt ((drew_heap _ _).trans (mem_set2 (mem_set1 (mem_set0 Hm _) _) _))) (by omega)).trans ((drew_heap _ _).trans (mem_set2 (mem_set1 (mem_set0 Hm _) _) _))
  have Hr2 : w2.heap[w.heap.size]? = some (.cells (memC 0 0 0 0) 23) := (hk2.block _ (mem_lt ((drew_heap _ _).trans ((mem_other (by omega) _ _).trans ((mem_other (by omega) _ _).trans ((mem_other (by omega) _ _).trans Hr))))) (by omega)).trans ((drew_heap _ _).trans ((mem_other (by omega) _ _).trans ((mem_other (by omega) _ _).trans ((mem_other (by omega) _ _).trans Hr))))
  clear m0 m1 m2 m3 z0 z1 z2 z3 r0 r1 r2 r3 y0 y1 y2 y3
  obtain ⟨⟨m0, m1, m2, m3⟩, z0, z1, z2, z3⟩ := mem_facts Hm2
  obtain ⟨⟨r0, r1, r2, r3⟩, y0, y1, y2, y3⟩ := mem_facts Hr2
  clear hk2
  go_wp2_with fail
  have HR : (((((w2.setCell ⟨w.heap.size + 1, 3, none⟩ (.int .i64 ((numD 4 (nx c).2).1))).setCell ⟨w.heap.size, 0, none⟩ (.int .i64 (lastD r x))).setCell ⟨w.heap.size, 1, none⟩ (.int .i64 ((idxD r x)))).setCell ⟨w.heap.size, 2, none⟩ (.int .i64 (4))).setCell ⟨w.heap.size, 3, none⟩ (.int .i64 ((numD 4 (nx c).2).1))).heap[w.heap.size]? = some (.cells (memC (lastD r x) ((idxD r x)) (4) ((numD 4 (nx c).2).1)) 23) := mem_res (W := (w2.setCell ⟨w.heap.size + 1, 3, none⟩ (.int .i64 ((numD 4 (nx c).2).1)))) ((mem_other (by omega) _ _).trans Hr2) (lastD r x) ((idxD r x)) (4) ((numD 4 (nx c).2).1)
  have HC : CurA (((((w2.setCell ⟨w.heap.size + 1, 3, none⟩ (.int .i64 ((numD 4 (nx c).2).1))).setCell ⟨w.heap.size, 0, none⟩ (.int .i64 (lastD r x))).setCell ⟨w.heap.size, 1, none⟩ (.int .i64 ((idxD r x)))).setCell ⟨w.heap.size, 2, none⟩ (.int .i64 (4))).setCell ⟨w.heap.size, 3, none⟩ (.int .i64 ((numD 4 (nx c).2).1))) b s _ := (((((hc2.set _ hne _).set _ hne0 _).set _ hne0 _).set _ hne0 _).set _ hne0 _)
  have HK : KeepBut b w (((((w2.setCell ⟨w.heap.size + 1, 3, none⟩ (.int .i64 ((numD 4 (nx c).2).1))).setCell ⟨w.heap.size, 0, none⟩ (.int .i64 (lastD r x))).setCell ⟨w.heap.size, 1, none⟩ (.int .i64 ((idxD r x)))).setCell ⟨w.heap.size, 2, none⟩ (.int .i64 (4))).setCell ⟨w.heap.size, 3, none⟩ (.int .i64 ((numD 4 (nx c).2).1))) := (((((hK2.setNew _ (by simp) _).setNew _ (by simp) _).setNew _ (by simp) _).setNew _ (by simp) _).setNew _ (by simp) _)
  generalize (((((w2.setCell ⟨w.heap.size + 1, 3, none⟩ (.int .i64 ((numD 4 (nx c).2).1))).setCell ⟨w.heap.size, 0, none⟩ (.int .i64 (lastD r x))).setCell ⟨w.heap.size, 1, none⟩ (.int .i64 ((idxD r x)))).setCell ⟨w.heap.size, 2, none⟩ (.int .i64 (4))).setCell ⟨w.heap.size, 3, none⟩ (.int .i64 ((numD 4 (nx c).2).1))) = WF at HR HC HK ⊢
  obtain ⟨⟨q0, q1, q2, q3⟩, _⟩ := mem_facts HR
  refine bodyPost_ret (v := .agg (memC (lastD r x) ((idxD r x)) (4) ((numD 4 (nx c).2).1))) (by unfold memC; simp [results, Try.results108, go_sem, q0, q1, q2, q3]) rfl ⟨rfl, HC, HK⟩
set_option maxHeartbeats 2000000 in
set_option maxRecDepth 100000 in
theorem dplace_s3_0 (b : Nat) (s : ByteArray) (c : Cur) (r rm : Int) (w : World) (h16 : s.size ≤ 1000000) (h : CurA w b s c) (hr : Byte r) (hm : Byte rm) (h4 : (rm % 8 == 4) = true) (hx : (idxD r (nx c).1 != 4) = true) (h64 : (nx c).1 / 64 = 3) (d1 : (rm / 64 == 1) = false) (d2 : (rm / 64 == 2) = false) :
    Calls Try.prog 108 #[.pointer (some ⟨b, 0, none⟩), .int .i64 r, .int .i64 rm] w fun e w' =>
      e = .returned (.agg (memC (lastD r (nx c).1) (idxD r (nx c).1) 8 0)) ∧ CurA w' b s (nx c).2 ∧ KeepBut b w w' := by
  have e7 : bits BinOp.and IntKind.i64 rm 7 = rm % 8 := dand7 hm
  have hlt := h.lt
  have hne : b ≠ w.heap.size + 1 := by omega
  have hne0 : b ≠ w.heap.size := by omega
  have hsib := cur_byte h
  obtain ⟨x, hxe⟩ : ∃ x, (nx c).1 = x := ⟨_, rfl⟩
  rw [hxe] at hx hsib ⊢
  rw [hxe] at h64
  go_enter Try.func108, Try.ntmps108
  go_wp2_with (first | (go_at_call 71; refine (dlast_w _ _ _ (by assumption) (by assumption)).mono ?_; rintro e w' ⟨rfl, rfl⟩))
  go_at_call 67
  refine (dbyte_any b s c _ h16 ((h.alloc hlt _).alloc (by simp; omega) _)).mono ?_
  rw [hxe]
  rintro e w1 ⟨rfl, hc1, hk1⟩
  have Hm : w1.heap[w.heap.size + 1]? = some (.cells (memC (lastD r rm) (-1) 1 0) 23) := (hk1.block _ (by simp) (by omega)).trans (heap_two _ _ _).2
  have Hr : w1.heap[w.heap.size]? = some (.cells (memC 0 0 0 0) 23) := (hk1.block _ (by simp; omega) (by omega)).trans (heap_two _ _ _).1
  have hK : KeepBut b w w1 := (((KeepBut.refl b w).alloc _).alloc _).trans hk1
  obtain ⟨⟨m0, m1, m2, m3⟩, z0, z1, z2, z3⟩ := mem_facts Hm
  obtain ⟨⟨r0, r1, r2, r3⟩, y0, y1, y2, y3⟩ := mem_facts Hr
  clear hk1
  go_wp2_with (first | (go_at_call 71; refine (dlast_w _ _ _ (by assumption) (by assumption)).mono ?_; rintro e w' ⟨rfl, rfl⟩) | (go_at_call 109; refine (didx_w _ _ _ (by assumption) (by assumption)).mono ?_; rintro e w' ⟨rfl, rfl⟩))
  go_region
  go_wp2_with fail
  have HR : (((((((w1.setCell ⟨w.heap.size + 1, 0, none⟩ (.int .i64 (lastD r x))).setCell ⟨w.heap.size + 1, 1, none⟩ (.int .i64 ((idxD r x)))).setCell ⟨w.heap.size + 1, 2, none⟩ (.int .i64 (8))).setCell ⟨w.heap.size, 0, none⟩ (.int .i64 (lastD r x))).setCell ⟨w.heap.size, 1, none⟩ (.int .i64 ((idxD r x)))).setCell ⟨w.heap.size, 2, none⟩ (.int .i64 (8))).setCell ⟨w.heap.size, 3, none⟩ (.int .i64 (0))).drew.heap[w.heap.size]? = some (.cells (memC (lastD r x) ((idxD r x)) (8) (0)) 23) := (drew_heap _ _).trans <| mem_res (W := (((w1.setCell ⟨w.heap.size + 1, 0, none⟩ (.int .i64 (lastD r x))).setCell ⟨w.heap.size + 1, 1, none⟩ (.int .i64 ((idxD r x)))).setCell ⟨w.heap.size + 1, 2, none⟩ (.int .i64 (8)))) ((mem_other (by omega) _ _).trans ((mem_other (by omega) _ _).trans ((mem_other (by omega) _ _).trans Hr))) (lastD r x) ((idxD r x)) (8) (0)
  have HC : CurA (((((((w1.setCell ⟨w.heap.size + 1, 0, none⟩ (.int .i64 (lastD r x))).setCell ⟨w.heap.size + 1, 1, none⟩ (.int .i64 ((idxD r x)))).setCell ⟨w.heap.size + 1, 2, none⟩ (.int .i64 (8))).setCell ⟨w.heap.size, 0, none⟩ (.int .i64 (lastD r x))).setCell ⟨w.heap.size, 1, none⟩ (.int .i64 ((idxD r x)))).setCell ⟨w.heap.size, 2, none⟩ (.int .i64 (8))).setCell ⟨w.heap.size, 3, none⟩ (.int .i64 (0))).drew b s _ := (((((((hc1.set _ hne _).set _ hne _).set _ hne _).set _ hne0 _).set _ hne0 _).set _ hne0 _).set _ hne0 _).dr
  have HK : KeepBut b w (((((((w1.setCell ⟨w.heap.size + 1, 0, none⟩ (.int .i64 (lastD r x))).setCell ⟨w.heap.size + 1, 1, none⟩ (.int .i64 ((idxD r x)))).setCell ⟨w.heap.size + 1, 2, none⟩ (.int .i64 (8))).setCell ⟨w.heap.size, 0, none⟩ (.int .i64 (lastD r x))).setCell ⟨w.heap.size, 1, none⟩ (.int .i64 ((idxD r x)))).setCell ⟨w.heap.size, 2, none⟩ (.int .i64 (8))).setCell ⟨w.heap.size, 3, none⟩ (.int .i64 (0))).drew := (((((((hK.setNew _ (by simp) _).setNew _ (by simp) _).setNew _ (by simp) _).setNew _ (by simp) _).setNew _ (by simp) _).setNew _ (by simp) _).setNew _ (by simp) _).dr
  generalize (((((((w1.setCell ⟨w.heap.size + 1, 0, none⟩ (.int .i64 (lastD r x))).setCell ⟨w.heap.size + 1, 1, none⟩ (.int .i64 ((idxD r x)))).setCell ⟨w.heap.size + 1, 2, none⟩ (.int .i64 (8))).setCell ⟨w.heap.size, 0, none⟩ (.int .i64 (lastD r x))).setCell ⟨w.heap.size, 1, none⟩ (.int .i64 ((idxD r x)))).setCell ⟨w.heap.size, 2, none⟩ (.int .i64 (8))).setCell ⟨w.heap.size, 3, none⟩ (.int .i64 (0))).drew = WF at HR HC HK ⊢
  obtain ⟨⟨q0, q1, q2, q3⟩, _⟩ := mem_facts HR
  refine bodyPost_ret (v := .agg (memC (lastD r x) ((idxD r x)) (8) (0))) (by unfold memC; simp [results, Try.results108, go_sem, q0, q1, q2, q3]) rfl ⟨rfl, HC, HK⟩
set_option maxHeartbeats 2000000 in
set_option maxRecDepth 100000 in
theorem dplace_s3_1 (b : Nat) (s : ByteArray) (c : Cur) (r rm : Int) (w : World) (h16 : s.size ≤ 1000000) (h : CurA w b s c) (hr : Byte r) (hm : Byte rm) (h4 : (rm % 8 == 4) = true) (hx : (idxD r (nx c).1 != 4) = true) (h64 : (nx c).1 / 64 = 3) (d1 : (rm / 64 == 1) = true) :
    Calls Try.prog 108 #[.pointer (some ⟨b, 0, none⟩), .int .i64 r, .int .i64 rm] w fun e w' =>
      e = .returned (.agg (memC (lastD r (nx c).1) (idxD r (nx c).1) 8 (numD 1 (nx c).2).1)) ∧ CurA w' b s (numD 1 (nx c).2).2 ∧ KeepBut b w w' := by
  have e7 : bits BinOp.and IntKind.i64 rm 7 = rm % 8 := dand7 hm
  have hlt := h.lt
  have hne : b ≠ w.heap.size + 1 := by omega
  have hne0 : b ≠ w.heap.size := by omega
  have hsib := cur_byte h
  obtain ⟨x, hxe⟩ : ∃ x, (nx c).1 = x := ⟨_, rfl⟩
  rw [hxe] at hx hsib ⊢
  rw [hxe] at h64
  go_enter Try.func108, Try.ntmps108
  go_wp2_with (first | (go_at_call 71; refine (dlast_w _ _ _ (by assumption) (by assumption)).mono ?_; rintro e w' ⟨rfl, rfl⟩))
  go_at_call 67
  refine (dbyte_any b s c _ h16 ((h.alloc hlt _).alloc (by simp; omega) _)).mono ?_
  rw [hxe]
  rintro e w1 ⟨rfl, hc1, hk1⟩
  have Hm : w1.heap[w.heap.size + 1]? = some (.cells (memC (lastD r rm) (-1) 1 0) 23) := (hk1.block _ (by simp) (by omega)).trans (heap_two _ _ _).2
  have Hr : w1.heap[w.heap.size]? = some (.cells (memC 0 0 0 0) 23) := (hk1.block _ (by simp; omega) (by omega)).trans (heap_two _ _ _).1
  have hK : KeepBut b w w1 := (((KeepBut.refl b w).alloc _).alloc _).trans hk1
  obtain ⟨⟨m0, m1, m2, m3⟩, z0, z1, z2, z3⟩ := mem_facts Hm
  obtain ⟨⟨r0, r1, r2, r3⟩, y0, y1, y2, y3⟩ := mem_facts Hr
  clear hk1
  go_wp2_with (first | (go_at_call 71; refine (dlast_w _ _ _ (by assumption) (by assumption)).mono ?_; rintro e w' ⟨rfl, rfl⟩) | (go_at_call 109; refine (didx_w _ _ _ (by assumption) (by assumption)).mono ?_; rintro e w' ⟨rfl, rfl⟩))
  go_region
  go_wp2_with fail
  go_at_call 68
  refine (dnumber_1 b s (nx c).2 _ h16 (((hc1.set _ hne _).set _ hne _).set _ hne _).dr).mono ?_
  rintro e w2 ⟨rfl, hc2, hk2⟩
  have hK2 : KeepBut b w w2 := (((hK.setNew _ (by simp) _).setNew _ (by simp) _).setNew _ (by simp) _).dr.trans hk2
  have Hm2 : w2.heap[w.heap.size + 1]? = some (.cells (memC (lastD r x) (idxD r x) 8 0) 23) := (hk2.block _ (mem_lt ((drew_heap _ _).trans (mem_set2 (mem_set1 (mem_set0 Hm _) _) _))) (by omega)).trans ((drew_heap _ _).trans (mem_set2 (mem_set1 (mem_set0 Hm _) _) _))
  have Hr2 : w2.heap[w.heap.size]? = some (.cells (memC 0 0 0 0) 23) := (hk2.block _ (mem_lt ((drew_heap _ _).trans ((mem_other (by omega) _ _).trans ((mem_other (by omega) _ _).trans ((mem_other (by omega) _ _).trans Hr))))) (by omega)).trans ((drew_heap _ _).trans ((mem_other (by omega) _ _).trans ((mem_other (by omega) _ _).trans ((mem_other (by omega) _ _).trans Hr))))
  clear m0 m1 m2 m3 z0 z1 z2 z3 r0 r1 r2 r3 y0 y1 y2 y3
  obtain ⟨⟨m0, m1, m2, m3⟩, z0, z1, z2, z3⟩ := mem_facts Hm2
  obtain ⟨⟨r0, r1, r2, r3⟩, y0, y1, y2, y3⟩ := mem_facts Hr2
  clear hk2
  go_wp2_with fail
  have HR : (((((w2.setCell ⟨w.heap.size + 1, 3, none⟩ (.int .i64 ((numD 1 (nx c).2).1))).setCell ⟨w.heap.size, 0, none⟩ (.int .i64 (lastD r x))).setCell ⟨w.heap.size, 1, none⟩ (.int .i64 ((idxD r x)))).setCell ⟨w.heap.size, 2, none⟩ (.int .i64 (8))).setCell ⟨w.heap.size, 3, none⟩ (.int .i64 ((numD 1 (nx c).2).1))).heap[w.heap.size]? = some (.cells (memC (lastD r x) ((idxD r x)) (8) ((numD 1 (nx c).2).1)) 23) := mem_res (W := (w2.setCell ⟨w.heap.size + 1, 3, none⟩ (.int .i64 ((numD 1 (nx c).2).1)))) ((mem_other (by omega) _ _).trans Hr2) (lastD r x) ((idxD r x)) (8) ((numD 1 (nx c).2).1)
  have HC : CurA (((((w2.setCell ⟨w.heap.size + 1, 3, none⟩ (.int .i64 ((numD 1 (nx c).2).1))).setCell ⟨w.heap.size, 0, none⟩ (.int .i64 (lastD r x))).setCell ⟨w.heap.size, 1, none⟩ (.int .i64 ((idxD r x)))).setCell ⟨w.heap.size, 2, none⟩ (.int .i64 (8))).setCell ⟨w.heap.size, 3, none⟩ (.int .i64 ((numD 1 (nx c).2).1))) b s _ := (((((hc2.set _ hne _).set _ hne0 _).set _ hne0 _).set _ hne0 _).set _ hne0 _)
  have HK : KeepBut b w (((((w2.setCell ⟨w.heap.size + 1, 3, none⟩ (.int .i64 ((numD 1 (nx c).2).1))).setCell ⟨w.heap.size, 0, none⟩ (.int .i64 (lastD r x))).setCell ⟨w.heap.size, 1, none⟩ (.int .i64 ((idxD r x)))).setCell ⟨w.heap.size, 2, none⟩ (.int .i64 (8))).setCell ⟨w.heap.size, 3, none⟩ (.int .i64 ((numD 1 (nx c).2).1))) := (((((hK2.setNew _ (by simp) _).setNew _ (by simp) _).setNew _ (by simp) _).setNew _ (by simp) _).setNew _ (by simp) _)
  generalize (((((w2.setCell ⟨w.heap.size + 1, 3, none⟩ (.int .i64 ((numD 1 (nx c).2).1))).setCell ⟨w.heap.size, 0, none⟩ (.int .i64 (lastD r x))).setCell ⟨w.heap.size, 1, none⟩ (.int .i64 ((idxD r x)))).setCell ⟨w.heap.size, 2, none⟩ (.int .i64 (8))).setCell ⟨w.heap.size, 3, none⟩ (.int .i64 ((numD 1 (nx c).2).1))) = WF at HR HC HK ⊢
  obtain ⟨⟨q0, q1, q2, q3⟩, _⟩ := mem_facts HR
  refine bodyPost_ret (v := .agg (memC (lastD r x) ((idxD r x)) (8) ((numD 1 (nx c).2).1))) (by unfold memC; simp [results, Try.results108, go_sem, q0, q1, q2, q3]) rfl ⟨rfl, HC, HK⟩
set_option maxHeartbeats 2000000 in
set_option maxRecDepth 100000 in
theorem dplace_s3_4 (b : Nat) (s : ByteArray) (c : Cur) (r rm : Int) (w : World) (h16 : s.size ≤ 1000000) (h : CurA w b s c) (hr : Byte r) (hm : Byte rm) (h4 : (rm % 8 == 4) = true) (hx : (idxD r (nx c).1 != 4) = true) (h64 : (nx c).1 / 64 = 3) (d1 : (rm / 64 == 1) = false) (d2 : (rm / 64 == 2) = true) :
    Calls Try.prog 108 #[.pointer (some ⟨b, 0, none⟩), .int .i64 r, .int .i64 rm] w fun e w' =>
      e = .returned (.agg (memC (lastD r (nx c).1) (idxD r (nx c).1) 8 (numD 4 (nx c).2).1)) ∧ CurA w' b s (numD 4 (nx c).2).2 ∧ KeepBut b w w' := by
  have e7 : bits BinOp.and IntKind.i64 rm 7 = rm % 8 := dand7 hm
  have hlt := h.lt
  have hne : b ≠ w.heap.size + 1 := by omega
  have hne0 : b ≠ w.heap.size := by omega
  have hsib := cur_byte h
  obtain ⟨x, hxe⟩ : ∃ x, (nx c).1 = x := ⟨_, rfl⟩
  rw [hxe] at hx hsib ⊢
  rw [hxe] at h64
  go_enter Try.func108, Try.ntmps108
  go_wp2_with (first | (go_at_call 71; refine (dlast_w _ _ _ (by assumption) (by assumption)).mono ?_; rintro e w' ⟨rfl, rfl⟩))
  go_at_call 67
  refine (dbyte_any b s c _ h16 ((h.alloc hlt _).alloc (by simp; omega) _)).mono ?_
  rw [hxe]
  rintro e w1 ⟨rfl, hc1, hk1⟩
  have Hm : w1.heap[w.heap.size + 1]? = some (.cells (memC (lastD r rm) (-1) 1 0) 23) := (hk1.block _ (by simp) (by omega)).trans (heap_two _ _ _).2
  have Hr : w1.heap[w.heap.size]? = some (.cells (memC 0 0 0 0) 23) := (hk1.block _ (by simp; omega) (by omega)).trans (heap_two _ _ _).1
  have hK : KeepBut b w w1 := (((KeepBut.refl b w).alloc _).alloc _).trans hk1
  obtain ⟨⟨m0, m1, m2, m3⟩, z0, z1, z2, z3⟩ := mem_facts Hm
  obtain ⟨⟨r0, r1, r2, r3⟩, y0, y1, y2, y3⟩ := mem_facts Hr
  clear hk1
  go_wp2_with (first | (go_at_call 71; refine (dlast_w _ _ _ (by assumption) (by assumption)).mono ?_; rintro e w' ⟨rfl, rfl⟩) | (go_at_call 109; refine (didx_w _ _ _ (by assumption) (by assumption)).mono ?_; rintro e w' ⟨rfl, rfl⟩))
  go_region
  go_wp2_with fail
  go_at_call 68
  refine (dnumber_4 b s (nx c).2 _ h16 (((hc1.set _ hne _).set _ hne _).set _ hne _).dr).mono ?_
  rintro e w2 ⟨rfl, hc2, hk2⟩
  have hK2 : KeepBut b w w2 := (((hK.setNew _ (by simp) _).setNew _ (by simp) _).setNew _ (by simp) _).dr.trans hk2
  have Hm2 : w2.heap[w.heap.size + 1]? = some (.cells (memC (lastD r x) (idxD r x) 8 0) 23) := (hk2.block _ (mem_lt ((drew_heap _ _).trans (mem_set2 (mem_set1 (mem_set0 Hm _) _) _))) (by omega)).trans ((drew_heap _ _).trans (mem_set2 (mem_set1 (mem_set0 Hm _) _) _))
  have Hr2 : w2.heap[w.heap.size]? = some (.cells (memC 0 0 0 0) 23) := (hk2.block _ (mem_lt ((drew_heap _ _).trans ((mem_other (by omega) _ _).trans ((mem_other (by omega) _ _).trans ((mem_other (by omega) _ _).trans Hr))))) (by omega)).trans ((drew_heap _ _).trans ((mem_other (by omega) _ _).trans ((mem_other (by omega) _ _).trans ((mem_other (by omega) _ _).trans Hr))))
  clear m0 m1 m2 m3 z0 z1 z2 z3 r0 r1 r2 r3 y0 y1 y2 y3
  obtain ⟨⟨m0, m1, m2, m3⟩, z0, z1, z2, z3⟩ := mem_facts Hm2
  obtain ⟨⟨r0, r1, r2, r3⟩, y0, y1, y2, y3⟩ := mem_facts Hr2
  clear hk2
  go_wp2_with fail
  have HR : (((((w2.setCell ⟨w.heap.size + 1, 3, none⟩ (.int .i64 ((numD 4 (nx c).2).1))).setCell ⟨w.heap.size, 0, none⟩ (.int .i64 (lastD r x))).setCell ⟨w.heap.size, 1, none⟩ (.int .i64 ((idxD r x)))).setCell ⟨w.heap.size, 2, none⟩ (.int .i64 (8))).setCell ⟨w.heap.size, 3, none⟩ (.int .i64 ((numD 4 (nx c).2).1))).heap[w.heap.size]? = some (.cells (memC (lastD r x) ((idxD r x)) (8) ((numD 4 (nx c).2).1)) 23) := mem_res (W := (w2.setCell ⟨w.heap.size + 1, 3, none⟩ (.int .i64 ((numD 4 (nx c).2).1)))) ((mem_other (by omega) _ _).trans Hr2) (lastD r x) ((idxD r x)) (8) ((numD 4 (nx c).2).1)
  have HC : CurA (((((w2.setCell ⟨w.heap.size + 1, 3, none⟩ (.int .i64 ((numD 4 (nx c).2).1))).setCell ⟨w.heap.size, 0, none⟩ (.int .i64 (lastD r x))).setCell ⟨w.heap.size, 1, none⟩ (.int .i64 ((idxD r x)))).setCell ⟨w.heap.size, 2, none⟩ (.int .i64 (8))).setCell ⟨w.heap.size, 3, none⟩ (.int .i64 ((numD 4 (nx c).2).1))) b s _ := (((((hc2.set _ hne _).set _ hne0 _).set _ hne0 _).set _ hne0 _).set _ hne0 _)
  have HK : KeepBut b w (((((w2.setCell ⟨w.heap.size + 1, 3, none⟩ (.int .i64 ((numD 4 (nx c).2).1))).setCell ⟨w.heap.size, 0, none⟩ (.int .i64 (lastD r x))).setCell ⟨w.heap.size, 1, none⟩ (.int .i64 ((idxD r x)))).setCell ⟨w.heap.size, 2, none⟩ (.int .i64 (8))).setCell ⟨w.heap.size, 3, none⟩ (.int .i64 ((numD 4 (nx c).2).1))) := (((((hK2.setNew _ (by simp) _).setNew _ (by simp) _).setNew _ (by simp) _).setNew _ (by simp) _).setNew _ (by simp) _)
  generalize (((((w2.setCell ⟨w.heap.size + 1, 3, none⟩ (.int .i64 ((numD 4 (nx c).2).1))).setCell ⟨w.heap.size, 0, none⟩ (.int .i64 (lastD r x))).setCell ⟨w.heap.size, 1, none⟩ (.int .i64 ((idxD r x)))).setCell ⟨w.heap.size, 2, none⟩ (.int .i64 (8))).setCell ⟨w.heap.size, 3, none⟩ (.int .i64 ((numD 4 (nx c).2).1))) = WF at HR HC HK ⊢
  obtain ⟨⟨q0, q1, q2, q3⟩, _⟩ := mem_facts HR
  refine bodyPost_ret (v := .agg (memC (lastD r x) ((idxD r x)) (8) ((numD 4 (nx c).2).1))) (by unfold memC; simp [results, Try.results108, go_sem, q0, q1, q2, q3]) rfl ⟨rfl, HC, HK⟩
end Go.Proofs.Ytakmpnmmcjnecaa

/- decode.cursor.place (layer 7), joined. Conditions: the cursor is one, the bytes are bytes. -/
namespace Go.Proofs.Ytakmpnmmcjnecaa
open Go.RowKit Calm

theorem disp_or (rm : Int) (P : Prop) (h0 : (rm / 64 == 1) = false → (rm / 64 == 2) = false → (∀ c, dispD rm c = (0, c)) → P) (h1 : (rm / 64 == 1) = true → (∀ c, dispD rm c = numD 1 c) → P)
    (h4 : (rm / 64 == 1) = false → (rm / 64 == 2) = true → (∀ c, dispD rm c = numD 4 c) → P) : P := by
  by_cases a : rm / 64 = 1
  · exact h1 (by simp [a]) (fun c => by unfold dispD; rw [if_pos a])
  · by_cases b : rm / 64 = 2
    · exact h4 (by simp [a]) (by simp [b]) (fun c => by unfold dispD; rw [if_neg a, if_pos b])
    · exact h0 (by simp [a]) (by simp [b]) (fun c => by unfold dispD; rw [if_neg a, if_neg b])
def placeV (r rm : Int) (c : Cur) : Value := .agg (memC (sibD r rm c).1.1 (sibD r rm c).1.2.1 (sibD r rm c).1.2.2 (dispD rm (sibD r rm c).2).1)
theorem dplace_any (b : Nat) (s : ByteArray) (c : Cur) (r rm : Int) (w : World) (h16 : s.size ≤ 1000000) (h : CurA w b s c) (hr : Byte r) (hm : Byte rm) :
    Calls Try.prog 108 #[.pointer (some ⟨b, 0, none⟩), .int .i64 r, .int .i64 rm] w fun e w' =>
      e = .returned (placeV r rm c) ∧ CurA w' b s (dispD rm (sibD r rm c).2).2 ∧ KeepBut b w w' := by
  unfold placeV
  by_cases a4 : rm % 8 = 4
  · have h4 : (rm % 8 == 4) = true := by simp [a4]
    by_cases ax : idxD r (nx c).1 = 4
    · have hx : (idxD r (nx c).1 != 4) = false := by simp [ax]
      have e : sibD r rm c = ((lastD r (nx c).1, -1, 1), (nx c).2) := by unfold sibD; rw [if_pos a4, if_pos ax, if_pos ax]
      rw [e]
      refine disp_or rm _ (fun d1 d2 hd => ?_) (fun d1 hd => ?_) (fun d1 d2 hd => ?_)
      · rw [hd]; exact dplace_sn_0 b s c r rm w h16 h hr hm h4 hx d1 d2
      · rw [hd]; exact dplace_sn_1 b s c r rm w h16 h hr hm h4 hx d1
      · rw [hd]; exact dplace_sn_4 b s c r rm w h16 h hr hm h4 hx d1 d2
    · have hx : (idxD r (nx c).1 != 4) = true := by simp [ax]
      have hb := cur_byte h
      have e : sibD r rm c = ((lastD r (nx c).1, idxD r (nx c).1, powD ((nx c).1 / 64)), (nx c).2) := by unfold sibD; rw [if_pos a4, if_neg ax, if_neg ax]
      rw [e]
      have hs : (nx c).1 / 64 = 0 ∨ (nx c).1 / 64 = 1 ∨ (nx c).1 / 64 = 2 ∨ (nx c).1 / 64 = 3 := by unfold Byte at hb; omega
      rcases hs with h64 | h64 | h64 | h64
      · have ep : powD ((nx c).1 / 64) = 1 := by rw [h64]; rfl
        rw [ep]
        refine disp_or rm _ (fun d1 d2 hd => ?_) (fun d1 hd => ?_) (fun d1 d2 hd => ?_)
        · rw [hd]; exact dplace_s0_0 b s c r rm w h16 h hr hm h4 hx h64 d1 d2
        · rw [hd]; exact dplace_s0_1 b s c r rm w h16 h hr hm h4 hx h64 d1
        · rw [hd]; exact dplace_s0_4 b s c r rm w h16 h hr hm h4 hx h64 d1 d2
      · have ep : powD ((nx c).1 / 64) = 2 := by rw [h64]; rfl
        rw [ep]
        refine disp_or rm _ (fun d1 d2 hd => ?_) (fun d1 hd => ?_) (fun d1 d2 hd => ?_)
        · rw [hd]; exact dplace_s1_0 b s c r rm w h16 h hr hm h4 hx h64 d1 d2
        · rw [hd]; exact dplace_s1_1 b s c r rm w h16 h hr hm h4 hx h64 d1
        · rw [hd]; exact dplace_s1_4 b s c r rm w h16 h hr hm h4 hx h64 d1 d2
      · have ep : powD ((nx c).1 / 64) = 4 := by rw [h64]; rfl
        rw [ep]
        refine disp_or rm _ (fun d1 d2 hd => ?_) (fun d1 hd => ?_) (fun d1 d2 hd => ?_)
        · rw [hd]; exact dplace_s2_0 b s c r rm w h16 h hr hm h4 hx h64 d1 d2
        · rw [hd]; exact dplace_s2_1 b s c r rm w h16 h hr hm h4 hx h64 d1
        · rw [hd]; exact dplace_s2_4 b s c r rm w h16 h hr hm h4 hx h64 d1 d2
      · have ep : powD ((nx c).1 / 64) = 8 := by rw [h64]; rfl
        rw [ep]
        refine disp_or rm _ (fun d1 d2 hd => ?_) (fun d1 hd => ?_) (fun d1 d2 hd => ?_)
        · rw [hd]; exact dplace_s3_0 b s c r rm w h16 h hr hm h4 hx h64 d1 d2
        · rw [hd]; exact dplace_s3_1 b s c r rm w h16 h hr hm h4 hx h64 d1
        · rw [hd]; exact dplace_s3_4 b s c r rm w h16 h hr hm h4 hx h64 d1 d2
  · have h4 : (rm % 8 == 4) = false := by simp [a4]
    have e : sibD r rm c = ((lastD r rm, -1, 1), c) := by unfold sibD; rw [if_neg a4]
    rw [e]
    refine disp_or rm _ (fun d1 d2 hd => ?_) (fun d1 hd => ?_) (fun d1 d2 hd => ?_)
    · rw [hd]; exact dplace_0_0 b s c r rm w h16 h hr hm h4 d1 d2
    · rw [hd]; exact dplace_0_1 b s c r rm w h16 h hr hm h4 d1
    · rw [hd]; exact dplace_0_4 b s c r rm w h16 h hr hm h4 d1 d2
end Go.Proofs.Ytakmpnmmcjnecaa
