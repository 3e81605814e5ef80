import Derived.Test.YtbcaelhchmoigaaMG
import Derived.Test.YtbcaelhchmoigaaMD
import Derived.Test.YtbcaelhchmoigaaME
import Derived.Orders
import Derived.Test.YtbcaelhchmoigaaMA
import Derived.Test.YtbcaelhchmoigaaMF
set_option maxHeartbeats 4000000
set_option maxRecDepth 100000
set_option linter.unusedVariables false
set_option linter.unusedSimpArgs false
namespace Go.Proofs.Ytbcaelhchmoigaa
open Go.RowKit Calm MapRun
def pairV (op : Int) : Value := .iface 129 (.int .i64 op)
def movesV (op : Int) (st : Bool) : Value := .iface 131 (.agg #[.int .i64 op, .bool st])
def takersE : Array MapEntry := #[
  ⟨.int .i64 1, pairV 6, 0⟩, ⟨.int .i64 17, pairV 7, 1⟩, ⟨.int .i64 41, pairV 8, 2⟩, ⟨.int .i64 25, pairV 9, 3⟩, ⟨.int .i64 33, pairV 10, 4⟩, ⟨.int .i64 9, pairV 11, 5⟩, ⟨.int .i64 49, pairV 12, 6⟩,
  ⟨.int .i64 57, pairV 13, 7⟩, ⟨.int .i64 133, pairV 14, 8⟩, ⟨.int .i64 139, movesV 3 false, 9⟩, ⟨.int .i64 137, movesV 4 true, 10⟩, ⟨.int .i64 141, movesV 5 false, 11⟩]
theorem takers_any (w : World) :
    Calls Try.prog 100 #[] w fun e w' => e = .returned (.map (some w.heap.size)) ∧ w.alloc (.map takersE 12) = w' := by
  have hmm := @run_makeMap Try.prog
  go_enter Try.func100, Try.ntmps100
  go_wp2_with (refine wpList_mops_all 24 (.tmp 0) (.map (some w.heap.size)) takersE 12 (by kernel_rfl) (by kernel_rfl) (by kernel_rfl) (by kernel_rfl) (by kernel_rfl) ?_)
  intro a' h1 h2
  go_wp2
  exact bodyPost_ret (results_tmp rfl _ _ _) h2 ⟨by have := h1; simp only [Act.eval] at this; rw [← this], rfl⟩
def missR : Option (Value × List Nat) → Option (List Nat)
  | some (.tuple ⟨[.nilIface, .bool false]⟩, l) => some l
  | _ => none
theorem missR_eq {l : List Nat} {x : Option (Value × List Nat)} (h : missR x = some l) : x = some (.tuple #[.nilIface, .bool false], l) := by
  unfold missR at h
  split at h
  · rw [Option.some.injEq] at h; rw [h]
  · cases h
def isKey (b : Int) : Bool := pairOp b != 0 || b == 139 || b == 137 || b == 141
theorem miss_all (r : Nat) : ((List.range 256).filter (fun b => !isKey (b : Nat))).map (fun b => missR (gcalm Try.prog (Instr.lookup 126 (.map (some r)) (.int .i64 (b : Nat)) true) takersE 12 [])) = List.replicate 244 (some [r]) := by
  kernel_rfl
theorem look_of {w : World} {r : Nat} {s : Sem Value} {v : Value} {es : Array MapEntry} {c : Nat} (h : gcalm Try.prog s es c [] = some (v, [r])) (hr : w.heap[r]? = some (.map es c)) : s.run Try.prog w = .ok v w :=
  run_gcalm w s h (fun z hz => by simpa using hz) hr
theorem look_miss (w : World) (r : Nat) (b : Int) (hb : Byte b) (hk : isKey b = false) (hr : w.heap[r]? = some (.map takersE 12)) :
    (Instr.lookup 126 (.map (some r)) (.int .i64 b) true).run Try.prog w = .ok (.tuple #[.nilIface, .bool false]) w := by
  obtain ⟨h1, h2⟩ := hb
  obtain ⟨n, rfl⟩ : ∃ n : Nat, b = n := ⟨b.toNat, by omega⟩
  have hm : missR (gcalm Try.prog (Instr.lookup 126 (.map (some r)) (.int .i64 (n : Nat)) true) takersE 12 []) ∈ List.replicate 244 (some [r]) := by
    rw [← miss_all r]
    exact List.mem_map.2 ⟨n, List.mem_filter.2 ⟨List.mem_range.2 (by omega), by rw [hk]; rfl⟩, rfl⟩
  exact look_of (missR_eq (List.eq_of_mem_replicate hm)) hr
theorem hit (w : World) (r : Nat) (b : Int) (v : Value) (h1 : (gcalm Try.prog (Instr.lookup 126 (.map (some r)) (.int .i64 b) true) takersE 12 []).map (fun y => y.1) = some v)
    (h2 : (gcalm Try.prog (Instr.lookup 126 (.map (some r)) (.int .i64 b) true) takersE 12 []).map (fun y => y.2) = some [r]) (hr : w.heap[r]? = some (.map takersE 12)) :
    (Instr.lookup 126 (.map (some r)) (.int .i64 b) true).run Try.prog w = .ok v w := by
  cases e : gcalm Try.prog (Instr.lookup 126 (.map (some r)) (.int .i64 b) true) takersE 12 [] with
  | none => rw [e] at h1; simp at h1
  | some y =>
    rw [e] at h1 h2
    simp only [Option.map_some, Option.some.injEq] at h1 h2
    refine look_of (r := r) ?_ hr
    rw [e, ← h1, ← h2]
theorem hit_1 (w : World) (r : Nat) (hr : w.heap[r]? = some (.map takersE 12)) : (Instr.lookup 126 (.map (some r)) (.int .i64 1) true).run Try.prog w = .ok (.tuple #[pairV 6, .bool true]) w := hit w r 1 _ (by kernel_rfl) (by kernel_rfl) hr
theorem hit_17 (w : World) (r : Nat) (hr : w.heap[r]? = some (.map takersE 12)) : (Instr.lookup 126 (.map (some r)) (.int .i64 17) true).run Try.prog w = .ok (.tuple #[pairV 7, .bool true]) w := hit w r 17 _ (by kernel_rfl) (by kernel_rfl) hr
theorem hit_41 (w : World) (r : Nat) (hr : w.heap[r]? = some (.map takersE 12)) : (Instr.lookup 126 (.map (some r)) (.int .i64 41) true).run Try.prog w = .ok (.tuple #[pairV 8, .bool true]) w := hit w r 41 _ (by kernel_rfl) (by kernel_rfl) hr
theorem hit_25 (w : World) (r : Nat) (hr : w.heap[r]? = some (.map takersE 12)) : (Instr.lookup 126 (.map (some r)) (.int .i64 25) true).run Try.prog w = .ok (.tuple #[pairV 9, .bool true]) w := hit w r 25 _ (by kernel_rfl) (by kernel_rfl) hr
theorem hit_33 (w : World) (r : Nat) (hr : w.heap[r]? = some (.map takersE 12)) : (Instr.lookup 126 (.map (some r)) (.int .i64 33) true).run Try.prog w = .ok (.tuple #[pairV 10, .bool true]) w := hit w r 33 _ (by kernel_rfl) (by kernel_rfl) hr
theorem hit_9 (w : World) (r : Nat) (hr : w.heap[r]? = some (.map takersE 12)) : (Instr.lookup 126 (.map (some r)) (.int .i64 9) true).run Try.prog w = .ok (.tuple #[pairV 11, .bool true]) w := hit w r 9 _ (by kernel_rfl) (by kernel_rfl) hr
theorem hit_49 (w : World) (r : Nat) (hr : w.heap[r]? = some (.map takersE 12)) : (Instr.lookup 126 (.map (some r)) (.int .i64 49) true).run Try.prog w = .ok (.tuple #[pairV 12, .bool true]) w := hit w r 49 _ (by kernel_rfl) (by kernel_rfl) hr
theorem hit_57 (w : World) (r : Nat) (hr : w.heap[r]? = some (.map takersE 12)) : (Instr.lookup 126 (.map (some r)) (.int .i64 57) true).run Try.prog w = .ok (.tuple #[pairV 13, .bool true]) w := hit w r 57 _ (by kernel_rfl) (by kernel_rfl) hr
theorem hit_133 (w : World) (r : Nat) (hr : w.heap[r]? = some (.map takersE 12)) : (Instr.lookup 126 (.map (some r)) (.int .i64 133) true).run Try.prog w = .ok (.tuple #[pairV 14, .bool true]) w := hit w r 133 _ (by kernel_rfl) (by kernel_rfl) hr
theorem hit_139 (w : World) (r : Nat) (hr : w.heap[r]? = some (.map takersE 12)) : (Instr.lookup 126 (.map (some r)) (.int .i64 139) true).run Try.prog w = .ok (.tuple #[movesV 3 false, .bool true]) w := hit w r 139 _ (by kernel_rfl) (by kernel_rfl) hr
theorem hit_137 (w : World) (r : Nat) (hr : w.heap[r]? = some (.map takersE 12)) : (Instr.lookup 126 (.map (some r)) (.int .i64 137) true).run Try.prog w = .ok (.tuple #[movesV 4 true, .bool true]) w := hit w r 137 _ (by kernel_rfl) (by kernel_rfl) hr
theorem hit_141 (w : World) (r : Nat) (hr : w.heap[r]? = some (.map takersE 12)) : (Instr.lookup 126 (.map (some r)) (.int .i64 141) true).run Try.prog w = .ok (.tuple #[movesV 5 false, .bool true]) w := hit w r 141 _ (by kernel_rfl) (by kernel_rfl) hr
end Go.Proofs.Ytbcaelhchmoigaa
namespace Go.Proofs.Ytbcaelhchmoigaa
open Go.RowKit Calm
def Ins.V (i : Ins) : Value := .agg #[.int .i64 i.op, .int .i64 i.d, .int .i64 i.s, .int .i64 i.t, .int .i64 i.mb, .int .i64 i.mi, .int .i64 i.ms, .int .i64 i.md, .int .i64 i.imm]
def insC (i : Ins) : Array Value := #[.int .i64 i.op, .int .i64 i.d, .int .i64 i.s, .int .i64 i.t, .int .i64 i.mb, .int .i64 i.mi, .int .i64 i.ms, .int .i64 i.md, .int .i64 i.imm]
theorem ins_facts {W : World} {m : Nat} {op d s t mb mi ms md imm : Int} (h : W.heap[m]? = some (.cells #[.int .i64 op, .int .i64 d, .int .i64 s, .int .i64 t, .int .i64 mb, .int .i64 mi, .int .i64 ms, .int .i64 md, .int .i64 imm] 35)) :
    At9 W m op d s t mb mi ms md imm ∧ (∀ k, W.frozen? ⟨m, k, none⟩ = false) := by
  constructor
  · unfold At9 World.cell?
    rw [h]
    exact ⟨rfl, rfl, rfl, rfl, rfl, rfl, rfl, rfl, rfl⟩
  · intro k; unfold World.frozen?; rw [h]; simp
def set9 (W : World) (m : Nat) (i : Ins) : World := (((((((((W.setCell ⟨m, 0, none⟩ (.int .i64 i.op)).setCell ⟨m, 1, none⟩ (.int .i64 i.d)).setCell ⟨m, 2, none⟩ (.int .i64 i.s)).setCell ⟨m, 3, none⟩ (.int .i64 i.t)).setCell ⟨m, 4, none⟩ (.int .i64 i.mb)).setCell ⟨m, 5, none⟩ (.int .i64 i.mi)).setCell ⟨m, 6, none⟩ (.int .i64 i.ms)).setCell ⟨m, 7, none⟩ (.int .i64 i.md)).setCell ⟨m, 8, none⟩ (.int .i64 i.imm))
theorem set9_arr (c0 c1 c2 c3 c4 c5 c6 c7 c8 x0 x1 x2 x3 x4 x5 x6 x7 x8 : Value) : (((((((((#[c0, c1, c2, c3, c4, c5, c6, c7, c8].setIfInBounds 0 x0).setIfInBounds 1 x1).setIfInBounds 2 x2).setIfInBounds 3 x3).setIfInBounds 4 x4).setIfInBounds 5 x5).setIfInBounds 6 x6).setIfInBounds 7 x7).setIfInBounds 8 x8) = #[x0, x1, x2, x3, x4, x5, x6, x7, x8] := by simp
theorem set9_heap {W : World} {m : Nat} {c : Array Value} (h : W.heap[m]? = some (.cells c 35)) (h9 : c.size = 9) (i : Ins) : (set9 W m i).heap[m]? = some (.cells (insC i) 35) := by
  unfold set9
  rw [setCell_heap (setCell_heap (setCell_heap (setCell_heap (setCell_heap (setCell_heap (setCell_heap (setCell_heap (setCell_heap h _) _) _) _) _) _) _) _) _]
  obtain ⟨l⟩ := c
  obtain ⟨c0, c1, c2, c3, c4, c5, c6, c7, c8, rfl⟩ : ∃ c0 c1 c2 c3 c4 c5 c6 c7 c8, l = [c0, c1, c2, c3, c4, c5, c6, c7, c8] := by
    match l, h9 with
    | [c0, c1, c2, c3, c4, c5, c6, c7, c8], _ => exact ⟨_, _, _, _, _, _, _, _, _, rfl⟩
  rw [set9_arr]; rfl
theorem CurA.set9 {w : World} {b m : Nat} {s : ByteArray} {c : Cur} (h : CurA w b s c) (hp : b ≠ m) (i : Ins) : CurA (set9 w m i) b s c :=
  ((((((((h.set _ hp _).set _ hp _).set _ hp _).set _ hp _).set _ hp _).set _ hp _).set _ hp _).set _ hp _).set _ hp _
theorem KeepBut.set9 {b m : Nat} {x y : World} (h : KeepBut b x y) (hp : x.heap.size ≤ m) (i : Ins) : KeepBut b x (set9 y m i) :=
  ((((((((h.setNew _ hp _).setNew _ hp _).setNew _ hp _).setNew _ hp _).setNew _ hp _).setNew _ hp _).setNew _ hp _).setNew _ hp _).setNew _ hp _
theorem ins_factsC {W : World} {m : Nat} {i : Ins} (h : W.heap[m]? = some (.cells (insC i) 35)) : At9 W m i.op i.d i.s i.t i.mb i.mi i.ms i.md i.imm := (ins_facts h).1
theorem dpair_any (op : Int) (b : Nat) (s : ByteArray) (c : Cur) (r : Int) (w : World) (h16 : s.size ≤ 1000000) (h : CurA w b s c) (hr : Byte r) :
    Calls Try.prog 117 #[.int .i64 op, .pointer (some ⟨b, 0, none⟩), .int .i64 r] w fun e w' =>
      e = .returned (pairB op r (nx c).1 (nx c).2).1.V ∧ CurA w' b s (pairB op r (nx c).1 (nx c).2).2 ∧ KeepBut b w w' := by
  have hlt := h.lt
  have hne0 : b ≠ w.heap.size := by omega
  have hb := cur_byte h
  obtain ⟨x, hxe⟩ : ∃ x, (nx c).1 = x := ⟨_, rfl⟩
  rw [hxe] at hb ⊢
  go_enter Try.func117, Try.ntmps117
  go_wp2_with fail
  go_at_call 92
  refine (dbyte_any b s c _ h16 (h.alloc hlt _)).mono ?_
  rw [hxe]
  rintro e w1 ⟨rfl, hc1, hk1⟩
  have Hr : w1.heap[w.heap.size]? = some (.cells #[.int .i64 0, .int .i64 0, .int .i64 0, .int .i64 0, .int .i64 0, .int .i64 0, .int .i64 0, .int .i64 0, .int .i64 0] 35) := (hk1.block _ (by simp) (by omega)).trans (MapRun.heap_last _ _)
  have hK : KeepBut b w w1 := ((KeepBut.refl b w).alloc _).trans hk1
  obtain ⟨⟨f0, f1, f2, f3, f4, f5, f6, f7, f8⟩, hfz⟩ := ins_facts Hr
  have z0 := hfz 0; have z1 := hfz 1; have z2 := hfz 2; have z3 := hfz 3; have z4 := hfz 4; have z5 := hfz 5; have z6 := hfz 6; have z7 := hfz 7; have z8 := hfz 8
  clear hfz hk1
  go_wp2_with (first | (go_at_call 96; refine (dlast_w _ _ _ (by assumption) (by assumption)).mono ?_; rintro e w' ⟨rfl, rfl⟩) | (go_at_call 95; refine (dmid_w _ _ _ (by assumption) (by assumption)).mono ?_; rintro e w' ⟨rfl, rfl⟩))
  have HR := set9_heap Hr rfl ⟨op, lastD r x, midD r x, 0, 0, 0, 0, 0, 0⟩
  have HC := hc1.set9 hne0 ⟨op, lastD r x, midD r x, 0, 0, 0, 0, 0, 0⟩
  have HK := hK.set9 (Nat.le_refl _) ⟨op, lastD r x, midD r x, 0, 0, 0, 0, 0, 0⟩
  change bodyPost _ _ _ _ _ (set9 w1 w.heap.size ⟨op, lastD r x, midD r x, 0, 0, 0, 0, 0, 0⟩)
  generalize set9 w1 w.heap.size ⟨op, lastD r x, midD r x, 0, 0, 0, 0, 0, 0⟩ = WF at HR HC HK ⊢
  obtain ⟨q0, q1, q2, q3, q4, q5, q6, q7, q8⟩ := ins_factsC HR
  refine bodyPost_ret (v := (pairB op r x (nx c).2).1.V) (by unfold Ins.V pairB; simp [results, Try.results117, go_sem, q0, q1, q2, q3, q4, q5, q6, q7, q8]) rfl ⟨rfl, HC, HK⟩
end Go.Proofs.Ytbcaelhchmoigaa
namespace Go.Proofs.Ytbcaelhchmoigaa
open Go.RowKit Calm
theorem placeV_eq (r rm : Int) (c : Cur) : placeV r rm c = .agg #[.int .i64 (sibD r rm c).1.1, .int .i64 (sibD r rm c).1.2.1, .int .i64 (sibD r rm c).1.2.2, .int .i64 (dispD rm (sibD r rm c).2).1] := rfl
attribute [local irreducible] sibD dispD midD lastD
theorem movD_load (op r rm : Int) (c : Cur) (h : op ≠ 4) : movD op r rm c = (⟨op, midD r rm, 0, 0, (sibD r rm c).1.1, (sibD r rm c).1.2.1, (sibD r rm c).1.2.2, (dispD rm (sibD r rm c).2).1, 0⟩, (dispD rm (sibD r rm c).2).2) := by
  unfold movD; rw [if_neg h, if_neg h]
theorem movD_store (r rm : Int) (c : Cur) : movD 4 r rm c = (⟨4, 0, midD r rm, 0, (sibD r rm c).1.1, (sibD r rm c).1.2.1, (sibD r rm c).1.2.2, (dispD rm (sibD r rm c).2).1, 0⟩, (dispD rm (sibD r rm c).2).2) := by
  unfold movD; rw [if_pos rfl, if_pos rfl]
theorem keep_dr {b : Nat} {x y : World} (h : KeepBut b x.drew y) : ∀ k : Nat, k < x.heap.size → k ≠ b → y.heap[k]? = x.heap[k]? := fun k hk hb => h.block k hk hb
theorem keep_al {b : Nat} {x y : World} {o : Obj} (h : KeepBut b (x.alloc o).drew y) : (∀ k : Nat, k < x.heap.size → k ≠ b → y.heap[k]? = x.heap[k]?) ∧ (x.heap.size ≠ b → y.heap[x.heap.size]? = some o) := by
  constructor
  · intro k hk hb
    exact (h.block k (show k < (x.alloc o).heap.size by simp; omega) hb).trans (Below.heap_alloc _ _ _ hk)
  · intro hb
    exact (h.block x.heap.size (show x.heap.size < (x.alloc o).heap.size by simp) hb).trans (MapRun.heap_last x o)
theorem KeepBut.dr_trans {b : Nat} {w x y : World} (h : KeepBut b w x) (k : KeepBut b x.drew y) : KeepBut b w y := h.dr.trans k
theorem KeepBut.al_trans {b : Nat} {w x y : World} {o : Obj} (h : KeepBut b w x) (k : KeepBut b (x.alloc o).drew y) : KeepBut b w y := (h.alloc o).dr.trans k
theorem al_old (x : World) (o : Obj) (k : Nat) (h : k < x.heap.size) : (x.alloc o).heap[k]? = x.heap[k]? := Below.heap_alloc _ _ _ h
theorem box_facts {W : World} {m : Nat} {op : Int} {st : Bool} (h : W.heap[m]? = some (.cells #[.int .i64 op, .bool st] 131)) : W.cell? ⟨m, 0, none⟩ = some (.int .i64 op) ∧ W.cell? ⟨m, 1, none⟩ = some (.bool st) := by
  unfold World.cell?; rw [h]; exact ⟨rfl, rfl⟩
theorem set9_old (W : World) (m k : Nat) (i : Ins) (h : k ≠ m) : (set9 W m i).heap[k]? = W.heap[k]? := by
  unfold set9
  simp only [mem_other h]
attribute [local irreducible] World.alloc World.drew World.setCell
theorem dmoves_load (op : Int) (b : Nat) (s : ByteArray) (c : Cur) (r : Int) (w : World) (h16 : s.size ≤ 1000000) (h : CurA w b s c) (hr : Byte r) (hop : op ≠ 4) :
    Calls Try.prog 118 #[.agg #[.int .i64 op, .bool false], .pointer (some ⟨b, 0, none⟩), .int .i64 r] w fun e w' =>
      e = .returned (movD op r (nx c).1 (nx c).2).1.V ∧ CurA w' b s (movD op r (nx c).1 (nx c).2).2 ∧ KeepBut b w w' := by
  have hlt := h.lt
  have hne0 : b ≠ w.heap.size := by omega
  have hb := cur_byte h
  obtain ⟨x, hxe⟩ : ∃ x, (nx c).1 = x := ⟨_, rfl⟩
  rw [hxe] at hb ⊢
  rw [movD_load op r x _ hop]
  go_enter Try.func118, Try.ntmps118
  go_wp2_with fail
  go_at_call 92
  refine (dbyte_any b s c _ h16 ((h.alloc hlt _).alloc (by simp; omega) _)).mono ?_
  rw [hxe]
  rintro e w1 ⟨rfl, hc1, hk1⟩
  have Hb : w1.heap[w.heap.size]? = some (.cells #[.int .i64 op, .bool false] 131) := (hk1.block _ (by simp; omega) (by omega)).trans (heap_two _ _ _).1
  have Hr : w1.heap[w.heap.size + 1]? = some (.cells #[.int .i64 0, .int .i64 0, .int .i64 0, .int .i64 0, .int .i64 0, .int .i64 0, .int .i64 0, .int .i64 0, .int .i64 0] 35) := (hk1.block _ (by simp) (by omega)).trans (heap_two _ _ _).2
  have hK : KeepBut b w w1 := (((KeepBut.refl b w).alloc _).alloc _).trans hk1
  have f0 : w1.cell? ⟨w.heap.size, 0, none⟩ = some (.int .i64 op) := by unfold World.cell?; rw [Hb]; rfl
  have f1 : w1.cell? ⟨w.heap.size, 1, none⟩ = some (.bool false) := by unfold World.cell?; rw [Hb]; rfl
  have hz1 := mem_lt Hr
  have hc1' := hc1
  have hz0 : w.heap.size < w1.heap.size := by omega
  have hbw1 : w1.heap.size ≠ b := by have := hc1.lt; omega
  clear hk1
  go_wp2_with fail
  go_region_held3 (fun V : World => V.cell? ⟨w.heap.size, 0, none⟩ = some (.int .i64 op))
    (first | exact f0 | exact g0 | exact cella _ f0 | exact cella _ g0 | go_simp)
    (first | (go_at_call 95; refine (dmid_w r x _ hr hb).mono ?_; rintro e w' ⟨rfl, rfl⟩) | (go_at_call 119; refine (dplace_any b s (nx c).2 r x _ h16 (by first | (with_reducible exact hc1'.dr) | (with_reducible exact (hc1'.alloc hc1'.lt _).dr)) hr hb).mono ?_; rw [placeV_eq]; rintro e w2 ⟨rfl, hc2, hk2⟩; (first | (have KQ := keep_dr (x := w1) hk2; have HK2 := hK.dr_trans hk2; have Hb2 := (KQ w.heap.size hz0 hne0.symm).trans Hb; have Hr2 := (KQ (w.heap.size + 1) hz1 (by omega)).trans Hr; have g0 := (box_facts Hb2).1; clear KQ hk2) | (have hq := keep_al (x := w1) hk2; have HK2 := hK.al_trans hk2; have KQ := hq.1; have Hb2 := (KQ w.heap.size hz0 hne0.symm).trans Hb; have Hr2 := (KQ (w.heap.size + 1) hz1 (by omega)).trans Hr; have g0 := (box_facts Hb2).1; have Hi := hq.2 hbw1; have hfz := (ins_facts Hi).2; obtain ⟨i0, i1, i2, i3, i4, i5, i6, i7, i8⟩ := (ins_facts Hi).1; have z0 := hfz 0; have z1 := hfz 1; have z2 := hfz 2; have z3 := hfz 3; have z4 := hfz 4; have z5 := hfz 5; have z6 := hfz 6; have z7 := hfz 7; have z8 := hfz 8; clear hfz KQ hk2 hq))))
  all_goals
    have hlt2 := mem_lt Hr2
    have hb2 := hc2.lt
  · have H3i := MapRun.heap_last w2 (Obj.cells (insC (⟨op, midD r x, 0, 0, (sibD r x (nx c).2).1.1, (sibD r x (nx c).2).1.2.1, (sibD r x (nx c).2).1.2.2, (dispD x (sibD r x (nx c).2).2).1, 0⟩ : Ins)) 35)
    have H3r := (al_old w2 (Obj.cells (insC (⟨op, midD r x, 0, 0, (sibD r x (nx c).2).1.1, (sibD r x (nx c).2).1.2.1, (sibD r x (nx c).2).1.2.2, (dispD x (sibD r x (nx c).2).2).1, 0⟩ : Ins)) 35) _ hlt2).trans Hr2
    have H3b := (al_old w2 (Obj.cells (insC (⟨op, midD r x, 0, 0, (sibD r x (nx c).2).1.1, (sibD r x (nx c).2).1.2.1, (sibD r x (nx c).2).1.2.2, (dispD x (sibD r x (nx c).2).2).1, 0⟩ : Ins)) 35) _ (by omega)).trans Hb2
    have HC3 := hc2.alloc hb2 (Obj.cells (insC (⟨op, midD r x, 0, 0, (sibD r x (nx c).2).1.1, (sibD r x (nx c).2).1.2.1, (sibD r x (nx c).2).1.2.2, (dispD x (sibD r x (nx c).2).2).1, 0⟩ : Ins)) 35)
    have HK3 := HK2.alloc (Obj.cells (insC (⟨op, midD r x, 0, 0, (sibD r x (nx c).2).1.1, (sibD r x (nx c).2).1.2.1, (sibD r x (nx c).2).1.2.2, (dispD x (sibD r x (nx c).2).2).1, 0⟩ : Ins)) 35)
    change Exit.then _ _ _ _ (w2.alloc (Obj.cells (insC (⟨op, midD r x, 0, 0, (sibD r x (nx c).2).1.1, (sibD r x (nx c).2).1.2.1, (sibD r x (nx c).2).1.2.2, (dispD x (sibD r x (nx c).2).2).1, 0⟩ : Ins)) 35))
    generalize w2.alloc (Obj.cells (insC (⟨op, midD r x, 0, 0, (sibD r x (nx c).2).1.1, (sibD r x (nx c).2).1.2.1, (sibD r x (nx c).2).1.2.2, (dispD x (sibD r x (nx c).2).2).1, 0⟩ : Ins)) 35) = W3 at H3i H3r H3b HC3 HK3 ⊢
    obtain ⟨_, b1⟩ := box_facts H3b
    obtain ⟨j0, j1, j2, j3, j4, j5, j6, j7, j8⟩ := ins_factsC H3i
    obtain ⟨⟨r0, r1, r2, r3, r4, r5, r6, r7, r8⟩, hfz⟩ := ins_facts H3r
    have y0 := hfz 0; have y1 := hfz 1; have y2 := hfz 2; have y3 := hfz 3; have y4 := hfz 4; have y5 := hfz 5; have y6 := hfz 6; have y7 := hfz 7; have y8 := hfz 8
    clear hfz
    have hne1 : b ≠ w.heap.size + 1 := by omega
    go_wp2_with fail
    have HR := set9_heap H3r rfl (⟨op, midD r x, 0, 0, (sibD r x (nx c).2).1.1, (sibD r x (nx c).2).1.2.1, (sibD r x (nx c).2).1.2.2, (dispD x (sibD r x (nx c).2).2).1, 0⟩ : Ins)
    have HC := HC3.set9 hne1 (⟨op, midD r x, 0, 0, (sibD r x (nx c).2).1.1, (sibD r x (nx c).2).1.2.1, (sibD r x (nx c).2).1.2.2, (dispD x (sibD r x (nx c).2).2).1, 0⟩ : Ins)
    have HK := HK3.set9 (m := w.heap.size + 1) (by omega) (⟨op, midD r x, 0, 0, (sibD r x (nx c).2).1.1, (sibD r x (nx c).2).1.2.1, (sibD r x (nx c).2).1.2.2, (dispD x (sibD r x (nx c).2).2).1, 0⟩ : Ins)
    change bodyPost _ _ _ _ _ (set9 W3 (w.heap.size + 1) (⟨op, midD r x, 0, 0, (sibD r x (nx c).2).1.1, (sibD r x (nx c).2).1.2.1, (sibD r x (nx c).2).1.2.2, (dispD x (sibD r x (nx c).2).2).1, 0⟩ : Ins))
    generalize set9 W3 (w.heap.size + 1) (⟨op, midD r x, 0, 0, (sibD r x (nx c).2).1.1, (sibD r x (nx c).2).1.2.1, (sibD r x (nx c).2).1.2.2, (dispD x (sibD r x (nx c).2).2).1, 0⟩ : Ins) = WF at HR HC HK ⊢
    obtain ⟨q0, q1, q2, q3, q4, q5, q6, q7, q8⟩ := ins_factsC HR
    refine bodyPost_ret (v := (⟨op, midD r x, 0, 0, (sibD r x (nx c).2).1.1, (sibD r x (nx c).2).1.2.1, (sibD r x (nx c).2).1.2.2, (dispD x (sibD r x (nx c).2).2).1, 0⟩ : Ins).V) (by unfold Ins.V; simp [results, Try.results118, go_sem, q0, q1, q2, q3, q4, q5, q6, q7, q8]) rfl ⟨rfl, HC, HK⟩
  all_goals
    have H3i := set9_heap Hi rfl (⟨op, midD r x, 0, 0, (sibD r x (nx c).2).1.1, (sibD r x (nx c).2).1.2.1, (sibD r x (nx c).2).1.2.2, (dispD x (sibD r x (nx c).2).2).1, 0⟩ : Ins)
    have H3r := (set9_old w2 w1.heap.size _ (⟨op, midD r x, 0, 0, (sibD r x (nx c).2).1.1, (sibD r x (nx c).2).1.2.1, (sibD r x (nx c).2).1.2.2, (dispD x (sibD r x (nx c).2).2).1, 0⟩ : Ins) (by omega)).trans Hr2
    have H3b := (set9_old w2 w1.heap.size _ (⟨op, midD r x, 0, 0, (sibD r x (nx c).2).1.1, (sibD r x (nx c).2).1.2.1, (sibD r x (nx c).2).1.2.2, (dispD x (sibD r x (nx c).2).2).1, 0⟩ : Ins) (by omega)).trans Hb2
    have HC3 := hc2.set9 hbw1.symm (⟨op, midD r x, 0, 0, (sibD r x (nx c).2).1.1, (sibD r x (nx c).2).1.2.1, (sibD r x (nx c).2).1.2.2, (dispD x (sibD r x (nx c).2).2).1, 0⟩ : Ins)
    have HK3 := HK2.set9 (m := w1.heap.size) (by omega) (⟨op, midD r x, 0, 0, (sibD r x (nx c).2).1.1, (sibD r x (nx c).2).1.2.1, (sibD r x (nx c).2).1.2.2, (dispD x (sibD r x (nx c).2).2).1, 0⟩ : Ins)
    change Exit.then _ _ _ _ (set9 w2 w1.heap.size (⟨op, midD r x, 0, 0, (sibD r x (nx c).2).1.1, (sibD r x (nx c).2).1.2.1, (sibD r x (nx c).2).1.2.2, (dispD x (sibD r x (nx c).2).2).1, 0⟩ : Ins))
    generalize set9 w2 w1.heap.size (⟨op, midD r x, 0, 0, (sibD r x (nx c).2).1.1, (sibD r x (nx c).2).1.2.1, (sibD r x (nx c).2).1.2.2, (dispD x (sibD r x (nx c).2).2).1, 0⟩ : Ins) = W3 at H3i H3r H3b HC3 HK3 ⊢
    obtain ⟨_, b1⟩ := box_facts H3b
    obtain ⟨j0, j1, j2, j3, j4, j5, j6, j7, j8⟩ := ins_factsC H3i
    obtain ⟨⟨r0, r1, r2, r3, r4, r5, r6, r7, r8⟩, hfz⟩ := ins_facts H3r
    have y0 := hfz 0; have y1 := hfz 1; have y2 := hfz 2; have y3 := hfz 3; have y4 := hfz 4; have y5 := hfz 5; have y6 := hfz 6; have y7 := hfz 7; have y8 := hfz 8
    clear hfz
    have hne1 : b ≠ w.heap.size + 1 := by omega
    go_wp2_with fail
    have HR := set9_heap H3r rfl (⟨op, midD r x, 0, 0, (sibD r x (nx c).2).1.1, (sibD r x (nx c).2).1.2.1, (sibD r x (nx c).2).1.2.2, (dispD x (sibD r x (nx c).2).2).1, 0⟩ : Ins)
    have HC := HC3.set9 hne1 (⟨op, midD r x, 0, 0, (sibD r x (nx c).2).1.1, (sibD r x (nx c).2).1.2.1, (sibD r x (nx c).2).1.2.2, (dispD x (sibD r x (nx c).2).2).1, 0⟩ : Ins)
    have HK := HK3.set9 (m := w.heap.size + 1) (by omega) (⟨op, midD r x, 0, 0, (sibD r x (nx c).2).1.1, (sibD r x (nx c).2).1.2.1, (sibD r x (nx c).2).1.2.2, (dispD x (sibD r x (nx c).2).2).1, 0⟩ : Ins)
    change bodyPost _ _ _ _ _ (set9 W3 (w.heap.size + 1) (⟨op, midD r x, 0, 0, (sibD r x (nx c).2).1.1, (sibD r x (nx c).2).1.2.1, (sibD r x (nx c).2).1.2.2, (dispD x (sibD r x (nx c).2).2).1, 0⟩ : Ins))
    generalize set9 W3 (w.heap.size + 1) (⟨op, midD r x, 0, 0, (sibD r x (nx c).2).1.1, (sibD r x (nx c).2).1.2.1, (sibD r x (nx c).2).1.2.2, (dispD x (sibD r x (nx c).2).2).1, 0⟩ : Ins) = WF at HR HC HK ⊢
    obtain ⟨q0, q1, q2, q3, q4, q5, q6, q7, q8⟩ := ins_factsC HR
    refine bodyPost_ret (v := (⟨op, midD r x, 0, 0, (sibD r x (nx c).2).1.1, (sibD r x (nx c).2).1.2.1, (sibD r x (nx c).2).1.2.2, (dispD x (sibD r x (nx c).2).2).1, 0⟩ : Ins).V) (by unfold Ins.V; simp [results, Try.results118, go_sem, q0, q1, q2, q3, q4, q5, q6, q7, q8]) rfl ⟨rfl, HC, HK⟩
theorem dmoves_store (b : Nat) (s : ByteArray) (c : Cur) (r : Int) (w : World) (h16 : s.size ≤ 1000000) (h : CurA w b s c) (hr : Byte r) (h3 : ((nx c).1 / 64 == 3) = false) :
    Calls Try.prog 118 #[.agg #[.int .i64 4, .bool true], .pointer (some ⟨b, 0, none⟩), .int .i64 r] w fun e w' =>
      e = .returned (movD 4 r (nx c).1 (nx c).2).1.V ∧ CurA w' b s (movD 4 r (nx c).1 (nx c).2).2 ∧ KeepBut b w w' := by
  have hlt := h.lt
  have hne0 : b ≠ w.heap.size := by omega
  have hb := cur_byte h
  obtain ⟨x, hxe⟩ : ∃ x, (nx c).1 = x := ⟨_, rfl⟩
  rw [hxe] at hb h3 ⊢
  rw [movD_store r x _]
  go_enter Try.func118, Try.ntmps118
  go_wp2_with fail
  go_at_call 92
  refine (dbyte_any b s c _ h16 ((h.alloc hlt _).alloc (by simp; omega) _)).mono ?_
  rw [hxe]
  rintro e w1 ⟨rfl, hc1, hk1⟩
  have Hb : w1.heap[w.heap.size]? = some (.cells #[.int .i64 4, .bool true] 131) := (hk1.block _ (by simp; omega) (by omega)).trans (heap_two _ _ _).1
  have Hr : w1.heap[w.heap.size + 1]? = some (.cells #[.int .i64 0, .int .i64 0, .int .i64 0, .int .i64 0, .int .i64 0, .int .i64 0, .int .i64 0, .int .i64 0, .int .i64 0] 35) := (hk1.block _ (by simp) (by omega)).trans (heap_two _ _ _).2
  have hK : KeepBut b w w1 := (((KeepBut.refl b w).alloc _).alloc _).trans hk1
  have f0 : w1.cell? ⟨w.heap.size, 0, none⟩ = some (.int .i64 4) := by unfold World.cell?; rw [Hb]; rfl
  have f1 : w1.cell? ⟨w.heap.size, 1, none⟩ = some (.bool true) := by unfold World.cell?; rw [Hb]; rfl
  have hz1 := mem_lt Hr
  have hc1' := hc1
  have hz0 : w.heap.size < w1.heap.size := by omega
  have hbw1 : w1.heap.size ≠ b := by have := hc1.lt; omega
  clear hk1
  go_wp2_with fail
  go_region_held3 (fun V : World => V.cell? ⟨w.heap.size, 0, none⟩ = some (.int .i64 4))
    (first | exact f0 | exact g0 | exact cella _ f0 | exact cella _ g0 | go_simp)
    (first | (go_at_call 95; refine (dmid_w r x _ hr hb).mono ?_; rintro e w' ⟨rfl, rfl⟩) | (go_at_call 119; refine (dplace_any b s (nx c).2 r x _ h16 (by first | (with_reducible exact hc1'.dr) | (with_reducible exact (hc1'.alloc hc1'.lt _).dr)) hr hb).mono ?_; rw [placeV_eq]; rintro e w2 ⟨rfl, hc2, hk2⟩; (first | (have KQ := keep_dr (x := w1) hk2; have HK2 := hK.dr_trans hk2; have Hb2 := (KQ w.heap.size hz0 hne0.symm).trans Hb; have Hr2 := (KQ (w.heap.size + 1) hz1 (by omega)).trans Hr; have g0 := (box_facts Hb2).1; clear KQ hk2) | (have hq := keep_al (x := w1) hk2; have HK2 := hK.al_trans hk2; have KQ := hq.1; have Hb2 := (KQ w.heap.size hz0 hne0.symm).trans Hb; have Hr2 := (KQ (w.heap.size + 1) hz1 (by omega)).trans Hr; have g0 := (box_facts Hb2).1; have Hi := hq.2 hbw1; have hfz := (ins_facts Hi).2; obtain ⟨i0, i1, i2, i3, i4, i5, i6, i7, i8⟩ := (ins_facts Hi).1; have z0 := hfz 0; have z1 := hfz 1; have z2 := hfz 2; have z3 := hfz 3; have z4 := hfz 4; have z5 := hfz 5; have z6 := hfz 6; have z7 := hfz 7; have z8 := hfz 8; clear hfz KQ hk2 hq))))
  all_goals
    have hlt2 := mem_lt Hr2
    have hb2 := hc2.lt
  · have H3i := MapRun.heap_last w2 (Obj.cells (insC (⟨4, midD r x, 0, 0, (sibD r x (nx c).2).1.1, (sibD r x (nx c).2).1.2.1, (sibD r x (nx c).2).1.2.2, (dispD x (sibD r x (nx c).2).2).1, 0⟩ : Ins)) 35)
    have H3r := (al_old w2 (Obj.cells (insC (⟨4, midD r x, 0, 0, (sibD r x (nx c).2).1.1, (sibD r x (nx c).2).1.2.1, (sibD r x (nx c).2).1.2.2, (dispD x (sibD r x (nx c).2).2).1, 0⟩ : Ins)) 35) _ hlt2).trans Hr2
    have H3b := (al_old w2 (Obj.cells (insC (⟨4, midD r x, 0, 0, (sibD r x (nx c).2).1.1, (sibD r x (nx c).2).1.2.1, (sibD r x (nx c).2).1.2.2, (dispD x (sibD r x (nx c).2).2).1, 0⟩ : Ins)) 35) _ (by omega)).trans Hb2
    have HC3 := hc2.alloc hb2 (Obj.cells (insC (⟨4, midD r x, 0, 0, (sibD r x (nx c).2).1.1, (sibD r x (nx c).2).1.2.1, (sibD r x (nx c).2).1.2.2, (dispD x (sibD r x (nx c).2).2).1, 0⟩ : Ins)) 35)
    have HK3 := HK2.alloc (Obj.cells (insC (⟨4, midD r x, 0, 0, (sibD r x (nx c).2).1.1, (sibD r x (nx c).2).1.2.1, (sibD r x (nx c).2).1.2.2, (dispD x (sibD r x (nx c).2).2).1, 0⟩ : Ins)) 35)
    change Exit.then _ _ _ _ (w2.alloc (Obj.cells (insC (⟨4, midD r x, 0, 0, (sibD r x (nx c).2).1.1, (sibD r x (nx c).2).1.2.1, (sibD r x (nx c).2).1.2.2, (dispD x (sibD r x (nx c).2).2).1, 0⟩ : Ins)) 35))
    generalize w2.alloc (Obj.cells (insC (⟨4, midD r x, 0, 0, (sibD r x (nx c).2).1.1, (sibD r x (nx c).2).1.2.1, (sibD r x (nx c).2).1.2.2, (dispD x (sibD r x (nx c).2).2).1, 0⟩ : Ins)) 35) = W3 at H3i H3r H3b HC3 HK3 ⊢
    obtain ⟨_, b1⟩ := box_facts H3b
    obtain ⟨⟨j0, j1, j2, j3, j4, j5, j6, j7, j8⟩, hfi⟩ := ins_facts H3i
    have v1 := hfi 1; have v2 := hfi 2
    obtain ⟨⟨r0, r1, r2, r3, r4, r5, r6, r7, r8⟩, hfz⟩ := ins_facts H3r
    have y0 := hfz 0; have y1 := hfz 1; have y2 := hfz 2; have y3 := hfz 3; have y4 := hfz 4; have y5 := hfz 5; have y6 := hfz 6; have y7 := hfz 7; have y8 := hfz 8
    clear hfz hfi
    have hne1 : b ≠ w.heap.size + 1 := by omega
    have hnm : b ≠ w2.heap.size := by omega
    have hrm : w.heap.size + 1 ≠ w2.heap.size := by omega
    have hmr : w2.heap.size ≠ w.heap.size + 1 := by omega
    go_wp2_with fail
    have HR := set9_heap (W := ((W3.setCell ⟨w2.heap.size, 1, none⟩ (.int .i64 0)).setCell ⟨w2.heap.size, 2, none⟩ (.int .i64 (midD r x)))) ((mem_other hrm _ _).trans ((mem_other hrm _ _).trans H3r)) rfl (⟨4, 0, midD r x, 0, (sibD r x (nx c).2).1.1, (sibD r x (nx c).2).1.2.1, (sibD r x (nx c).2).1.2.2, (dispD x (sibD r x (nx c).2).2).1, 0⟩ : Ins)
    have HC := ((HC3.set ⟨w2.heap.size, 1, none⟩ hnm (.int .i64 0)).set ⟨w2.heap.size, 2, none⟩ hnm (.int .i64 (midD r x))).set9 hne1 (⟨4, 0, midD r x, 0, (sibD r x (nx c).2).1.1, (sibD r x (nx c).2).1.2.1, (sibD r x (nx c).2).1.2.2, (dispD x (sibD r x (nx c).2).2).1, 0⟩ : Ins)
    have HK := ((HK3.setNew ⟨w2.heap.size, 1, none⟩ (by show w.heap.size ≤ w2.heap.size; omega) (.int .i64 0)).setNew ⟨w2.heap.size, 2, none⟩ (by show w.heap.size ≤ w2.heap.size; omega) (.int .i64 (midD r x))).set9 (m := w.heap.size + 1) (by omega) (⟨4, 0, midD r x, 0, (sibD r x (nx c).2).1.1, (sibD r x (nx c).2).1.2.1, (sibD r x (nx c).2).1.2.2, (dispD x (sibD r x (nx c).2).2).1, 0⟩ : Ins)
    change bodyPost _ _ _ _ _ (set9 ((W3.setCell ⟨w2.heap.size, 1, none⟩ (.int .i64 0)).setCell ⟨w2.heap.size, 2, none⟩ (.int .i64 (midD r x))) (w.heap.size + 1) (⟨4, 0, midD r x, 0, (sibD r x (nx c).2).1.1, (sibD r x (nx c).2).1.2.1, (sibD r x (nx c).2).1.2.2, (dispD x (sibD r x (nx c).2).2).1, 0⟩ : Ins))
    generalize set9 ((W3.setCell ⟨w2.heap.size, 1, none⟩ (.int .i64 0)).setCell ⟨w2.heap.size, 2, none⟩ (.int .i64 (midD r x))) (w.heap.size + 1) (⟨4, 0, midD r x, 0, (sibD r x (nx c).2).1.1, (sibD r x (nx c).2).1.2.1, (sibD r x (nx c).2).1.2.2, (dispD x (sibD r x (nx c).2).2).1, 0⟩ : Ins) = WF at HR HC HK ⊢
    obtain ⟨q0, q1, q2, q3, q4, q5, q6, q7, q8⟩ := ins_factsC HR
    refine bodyPost_ret (v := (⟨4, 0, midD r x, 0, (sibD r x (nx c).2).1.1, (sibD r x (nx c).2).1.2.1, (sibD r x (nx c).2).1.2.2, (dispD x (sibD r x (nx c).2).2).1, 0⟩ : Ins).V) (by unfold Ins.V; simp [results, Try.results118, go_sem, q0, q1, q2, q3, q4, q5, q6, q7, q8]) rfl ⟨rfl, HC, HK⟩
  all_goals
    have H3i := set9_heap Hi rfl (⟨4, midD r x, 0, 0, (sibD r x (nx c).2).1.1, (sibD r x (nx c).2).1.2.1, (sibD r x (nx c).2).1.2.2, (dispD x (sibD r x (nx c).2).2).1, 0⟩ : Ins)
    have H3r := (set9_old w2 w1.heap.size _ (⟨4, midD r x, 0, 0, (sibD r x (nx c).2).1.1, (sibD r x (nx c).2).1.2.1, (sibD r x (nx c).2).1.2.2, (dispD x (sibD r x (nx c).2).2).1, 0⟩ : Ins) (by omega)).trans Hr2
    have H3b := (set9_old w2 w1.heap.size _ (⟨4, midD r x, 0, 0, (sibD r x (nx c).2).1.1, (sibD r x (nx c).2).1.2.1, (sibD r x (nx c).2).1.2.2, (dispD x (sibD r x (nx c).2).2).1, 0⟩ : Ins) (by omega)).trans Hb2
    have HC3 := hc2.set9 hbw1.symm (⟨4, midD r x, 0, 0, (sibD r x (nx c).2).1.1, (sibD r x (nx c).2).1.2.1, (sibD r x (nx c).2).1.2.2, (dispD x (sibD r x (nx c).2).2).1, 0⟩ : Ins)
    have HK3 := HK2.set9 (m := w1.heap.size) (by omega) (⟨4, midD r x, 0, 0, (sibD r x (nx c).2).1.1, (sibD r x (nx c).2).1.2.1, (sibD r x (nx c).2).1.2.2, (dispD x (sibD r x (nx c).2).2).1, 0⟩ : Ins)
    change Exit.then _ _ _ _ (set9 w2 w1.heap.size (⟨4, midD r x, 0, 0, (sibD r x (nx c).2).1.1, (sibD r x (nx c).2).1.2.1, (sibD r x (nx c).2).1.2.2, (dispD x (sibD r x (nx c).2).2).1, 0⟩ : Ins))
    generalize set9 w2 w1.heap.size (⟨4, midD r x, 0, 0, (sibD r x (nx c).2).1.1, (sibD r x (nx c).2).1.2.1, (sibD r x (nx c).2).1.2.2, (dispD x (sibD r x (nx c).2).2).1, 0⟩ : Ins) = W3 at H3i H3r H3b HC3 HK3 ⊢
    obtain ⟨_, b1⟩ := box_facts H3b
    obtain ⟨⟨j0, j1, j2, j3, j4, j5, j6, j7, j8⟩, hfi⟩ := ins_facts H3i
    have v1 := hfi 1; have v2 := hfi 2
    obtain ⟨⟨r0, r1, r2, r3, r4, r5, r6, r7, r8⟩, hfz⟩ := ins_facts H3r
    have y0 := hfz 0; have y1 := hfz 1; have y2 := hfz 2; have y3 := hfz 3; have y4 := hfz 4; have y5 := hfz 5; have y6 := hfz 6; have y7 := hfz 7; have y8 := hfz 8
    clear hfz hfi
    have hne1 : b ≠ w.heap.size + 1 := by omega
    have hnm : b ≠ w1.heap.size := by omega
    have hrm : w.heap.size + 1 ≠ w1.heap.size := by omega
    have hmr : w1.heap.size ≠ w.heap.size + 1 := by omega
    go_wp2_with fail
    have HR := set9_heap (W := ((W3.setCell ⟨w1.heap.size, 1, none⟩ (.int .i64 0)).setCell ⟨w1.heap.size, 2, none⟩ (.int .i64 (midD r x)))) ((mem_other hrm _ _).trans ((mem_other hrm _ _).trans H3r)) rfl (⟨4, 0, midD r x, 0, (sibD r x (nx c).2).1.1, (sibD r x (nx c).2).1.2.1, (sibD r x (nx c).2).1.2.2, (dispD x (sibD r x (nx c).2).2).1, 0⟩ : Ins)
    have HC := ((HC3.set ⟨w1.heap.size, 1, none⟩ hnm (.int .i64 0)).set ⟨w1.heap.size, 2, none⟩ hnm (.int .i64 (midD r x))).set9 hne1 (⟨4, 0, midD r x, 0, (sibD r x (nx c).2).1.1, (sibD r x (nx c).2).1.2.1, (sibD r x (nx c).2).1.2.2, (dispD x (sibD r x (nx c).2).2).1, 0⟩ : Ins)
    have HK := ((HK3.setNew ⟨w1.heap.size, 1, none⟩ (by show w.heap.size ≤ w1.heap.size; omega) (.int .i64 0)).setNew ⟨w1.heap.size, 2, none⟩ (by show w.heap.size ≤ w1.heap.size; omega) (.int .i64 (midD r x))).set9 (m := w.heap.size + 1) (by omega) (⟨4, 0, midD r x, 0, (sibD r x (nx c).2).1.1, (sibD r x (nx c).2).1.2.1, (sibD r x (nx c).2).1.2.2, (dispD x (sibD r x (nx c).2).2).1, 0⟩ : Ins)
    change bodyPost _ _ _ _ _ (set9 ((W3.setCell ⟨w1.heap.size, 1, none⟩ (.int .i64 0)).setCell ⟨w1.heap.size, 2, none⟩ (.int .i64 (midD r x))) (w.heap.size + 1) (⟨4, 0, midD r x, 0, (sibD r x (nx c).2).1.1, (sibD r x (nx c).2).1.2.1, (sibD r x (nx c).2).1.2.2, (dispD x (sibD r x (nx c).2).2).1, 0⟩ : Ins))
    generalize set9 ((W3.setCell ⟨w1.heap.size, 1, none⟩ (.int .i64 0)).setCell ⟨w1.heap.size, 2, none⟩ (.int .i64 (midD r x))) (w.heap.size + 1) (⟨4, 0, midD r x, 0, (sibD r x (nx c).2).1.1, (sibD r x (nx c).2).1.2.1, (sibD r x (nx c).2).1.2.2, (dispD x (sibD r x (nx c).2).2).1, 0⟩ : Ins) = WF at HR HC HK ⊢
    obtain ⟨q0, q1, q2, q3, q4, q5, q6, q7, q8⟩ := ins_factsC HR
    refine bodyPost_ret (v := (⟨4, 0, midD r x, 0, (sibD r x (nx c).2).1.1, (sibD r x (nx c).2).1.2.1, (sibD r x (nx c).2).1.2.2, (dispD x (sibD r x (nx c).2).2).1, 0⟩ : Ins).V) (by unfold Ins.V; simp [results, Try.results118, go_sem, q0, q1, q2, q3, q4, q5, q6, q7, q8]) rfl ⟨rfl, HC, HK⟩
theorem dmoves_mov (b : Nat) (s : ByteArray) (c : Cur) (r : Int) (w : World) (h16 : s.size ≤ 1000000) (h : CurA w b s c) (hr : Byte r) (h3 : ((nx c).1 / 64 == 3) = true) :
    Calls Try.prog 118 #[.agg #[.int .i64 4, .bool true], .pointer (some ⟨b, 0, none⟩), .int .i64 r] w fun e w' =>
      e = .returned (pairB 1 r (nx c).1 (nx c).2).1.V ∧ CurA w' b s (pairB 1 r (nx c).1 (nx c).2).2 ∧ KeepBut b w w' := by
  have hlt := h.lt
  have hne1 : b ≠ w.heap.size + 1 := by omega
  have hb := cur_byte h
  obtain ⟨x, hxe⟩ : ∃ x, (nx c).1 = x := ⟨_, rfl⟩
  rw [hxe] at hb h3 ⊢
  go_enter Try.func118, Try.ntmps118
  go_wp2_with fail
  go_at_call 92
  refine (dbyte_any b s c _ h16 ((h.alloc hlt _).alloc (by simp; omega) _)).mono ?_
  rw [hxe]
  rintro e w1 ⟨rfl, hc1, hk1⟩
  have Hb : w1.heap[w.heap.size]? = some (.cells #[.int .i64 4, .bool true] 131) := (hk1.block _ (by simp; omega) (by omega)).trans (heap_two _ _ _).1
  have Hr : w1.heap[w.heap.size + 1]? = some (.cells #[.int .i64 0, .int .i64 0, .int .i64 0, .int .i64 0, .int .i64 0, .int .i64 0, .int .i64 0, .int .i64 0, .int .i64 0] 35) := (hk1.block _ (by simp) (by omega)).trans (heap_two _ _ _).2
  have hK : KeepBut b w w1 := (((KeepBut.refl b w).alloc _).alloc _).trans hk1
  obtain ⟨b0, b1⟩ := box_facts Hb
  obtain ⟨⟨r0, r1, r2, r3, r4, r5, r6, r7, r8⟩, hfz⟩ := ins_facts Hr
  have y0 := hfz 0; have y1 := hfz 1; have y2 := hfz 2; have y3 := hfz 3; have y4 := hfz 4; have y5 := hfz 5; have y6 := hfz 6; have y7 := hfz 7; have y8 := hfz 8
  clear hfz hk1
  go_wp2_with (first | (go_at_call 96; refine (dlast_w _ _ _ (by assumption) (by assumption)).mono ?_; rintro e w' ⟨rfl, rfl⟩) | (go_at_call 95; refine (dmid_w _ _ _ (by assumption) (by assumption)).mono ?_; rintro e w' ⟨rfl, rfl⟩))
  have HR := set9_heap Hr rfl ⟨1, lastD r x, midD r x, 0, 0, 0, 0, 0, 0⟩
  have HC := hc1.set9 hne1 ⟨1, lastD r x, midD r x, 0, 0, 0, 0, 0, 0⟩
  have HK := hK.set9 (m := w.heap.size + 1) (by omega) ⟨1, lastD r x, midD r x, 0, 0, 0, 0, 0, 0⟩
  change bodyPost _ _ _ _ _ (set9 w1 (w.heap.size + 1) ⟨1, lastD r x, midD r x, 0, 0, 0, 0, 0, 0⟩)
  generalize set9 w1 (w.heap.size + 1) ⟨1, lastD r x, midD r x, 0, 0, 0, 0, 0, 0⟩ = WF at HR HC HK ⊢
  obtain ⟨q0, q1, q2, q3, q4, q5, q6, q7, q8⟩ := ins_factsC HR
  refine bodyPost_ret (v := (pairB 1 r x (nx c).2).1.V) (by unfold Ins.V pairB; simp [results, Try.results118, go_sem, q0, q1, q2, q3, q4, q5, q6, q7, q8]) rfl ⟨rfl, HC, HK⟩
end Go.Proofs.Ytbcaelhchmoigaa
namespace Go.Proofs.Ytbcaelhchmoigaa.Bag
open Go Calm
variable {P : Program} {ops : Array Oper} {Q : Exit → Act → World → Prop} {md : Region.Mode}
def mark (L : Array Bool) : List Nat → Array Bool
  | [] => L
  | j :: js => mark (L.setIfInBounds j true) js
theorem mark_append (L : Array Bool) (xs ys : List Nat) : mark L (xs ++ ys) = mark (mark L xs) ys := by
  induction xs generalizing L with
  | nil => rfl
  | cons x xs ih => exact ih _
theorem mark_getD {L : Array Bool} {j : Nat} {d : Bool} : ∀ {done : List Nat}, j ∉ done → (mark L done).getD j d = L.getD j d := by
  intro done
  induction done generalizing L with
  | nil => intro _; rfl
  | cons x xs ih =>
    intro h
    rw [mark, ih (fun h' => h (List.mem_cons_of_mem _ h')), getD_set_ne d (fun e => h (by rw [e]; exact List.mem_cons_self))]
theorem mark_keep {L : Array Bool} {j : Nat} : ∀ {done : List Nat}, L.getD j false = true → (mark L done).getD j false = true := by
  intro done
  induction done generalizing L with
  | nil => intro h; exact h
  | cons x xs ih => intro h; exact ih (getD_set_true h)
theorem mark_mem {L : Array Bool} {j : Nat} : ∀ {done : List Nat}, j ∈ done → (mark L done).getD j true = true := by
  intro done
  induction done generalizing L with
  | nil => intro h; cases h
  | cons x xs ih =>
    intro h
    by_cases hx : j ∈ xs
    · exact ih hx
    · have hj : j = x := (List.mem_cons.1 h).resolve_right hx
      subst hj
      rw [mark, mark_getD hx]
      by_cases hl : j < L.size
      · simp [hl]
      · simp [hl]
theorem mark_perm {xs ys : List Nat} (h : xs.Perm ys) : ∀ L : Array Bool, mark L xs = mark L ys := by
  induction h with
  | nil => intro L; rfl
  | cons x _ ih => intro L; exact ih _
  | swap x y l =>
    intro L
    show mark ((L.setIfInBounds y true).setIfInBounds x true) l = mark ((L.setIfInBounds x true).setIfInBounds y true) l
    by_cases hxy : y = x
    · subst hxy; rfl
    · rw [Array.setIfInBounds_comm _ _ hxy]
  | trans _ _ ih1 ih2 => intro L; rw [ih1, ih2]
def others (md : Region.Mode) (ops : Array Oper) (js : List Nat) (L : Array Bool) : Bool :=
  (List.range ops.size).all fun i => L.getD i true || js.contains i || match ops[i]? with
    | some o => js.all fun j => o.after.any fun e => Region.binds md e && e.on == j
    | none => true
theorem wpAny_bag {js : List Nat} (hn : js.Nodup) {L : Array Bool} {a : Act} {W : List Nat → World} {fuel : Nat}
    (hB : ∀ j ∈ js, j ∈ Region.ready md ops L) (hA : others md ops js L = true)
    (hC : ∀ (done : List Nat) (i : Nat) (K : Act → World → Prop), (∀ x ∈ done, x ∈ js) → i ∈ js → i ∉ done → K a (W (done ++ [i])) → wpOp P ops Q i K a (W done))
    (hQ : ∀ done, done.Perm js → wpAny P md ops Q fuel (mark L js) a (W done)) :
    ∀ (n : Nat) (done rest : List Nat), (done ++ rest).Perm js → rest.length = n → wpAny P md ops Q (fuel + n) (mark L done) a (W done) := by
  intro n
  induction n with
  | zero =>
    intro done rest h1 h3
    obtain rfl : rest = [] := List.eq_nil_of_length_eq_zero h3
    have hp : done.Perm js := by simpa using h1
    rw [mark_perm hp]
    exact hQ done hp
  | succ n ih =>
    intro done rest h1 h3
    have hnd : (done ++ rest).Nodup := h1.nodup_iff.2 hn
    have hdis := (List.nodup_append.1 hnd).2.2
    have h2 : ∀ x ∈ done, x ∈ js := fun x hx => h1.mem_iff.1 (List.mem_append_left _ hx)
    have hrest : ∀ x, x ∈ rest ↔ x ∈ js ∧ x ∉ done := by
      intro x
      constructor
      · intro hx; exact ⟨h1.mem_iff.1 (List.mem_append_right _ hx), fun hd => hdis x hd x hx rfl⟩
      · intro hx; exact (List.mem_append.1 (h1.mem_iff.2 hx.1)).resolve_left hx.2
    have hex : ∃ j ∈ js, j ∉ done := by
      cases rest with
      | nil => cases h3
      | cons x xs => exact ⟨x, (hrest x).1 List.mem_cons_self⟩
    have hrd : ∀ j ∈ js, j ∉ done → j ∈ Region.ready md ops (mark L done) := by
      intro j hj hd
      obtain ⟨h0, o, ho, hall⟩ := mem_ready.1 (hB j hj)
      exact mem_ready.2 ⟨by rw [mark_getD hd]; exact h0, o, ho, fun e he hb => mark_keep (hall e he hb)⟩
    refine ⟨fun h0 => ?_, fun i hi => ?_⟩
    · obtain ⟨j, hj, hd⟩ := hex
      have := hrd j hj hd
      rw [h0] at this; cases this
    · obtain ⟨h0, o, ho, hall⟩ := mem_ready.1 hi
      have hid : i ∉ done := fun hd => by rw [mark_mem hd] at h0; cases h0
      have hij : i ∈ js := by
        refine Classical.byContradiction fun hni => ?_
        have hlt : i < ops.size := (Array.getElem?_eq_some_iff.1 ho).1
        have ha := List.all_eq_true.1 hA i (List.mem_range.2 hlt)
        rw [mark_getD hid] at h0
        simp only [h0, ho, Bool.false_or, Bool.or_eq_true, List.contains_iff_mem, hni, false_or, List.all_eq_true] at ha
        obtain ⟨j, hj, hd⟩ := hex
        obtain ⟨e, he, hb⟩ := Array.any_eq_true'.1 (ha j hj)
        simp only [Bool.and_eq_true, beq_iff_eq] at hb
        have h4 := hall e he hb.1
        rw [hb.2, mark_getD hd] at h4
        obtain ⟨h5, o', ho', _⟩ := mem_ready.1 (hB j hj)
        have hlt' : j < ops.size := (Array.getElem?_eq_some_iff.1 ho').1
        rcases Nat.lt_or_ge j L.size with h' | h'
        · simp [h'] at h4 h5; rw [h5] at h4; cases h4
        · simp [Array.getElem?_eq_none h'] at h4
      have hir : i ∈ rest := (hrest i).2 ⟨hij, hid⟩
      refine hC done i _ h2 hij hid ?_
      have h6 := ih (done ++ [i]) (rest.erase i) (by
        rw [List.append_assoc]
        exact (List.Perm.append_left done (List.perm_cons_erase hir).symm).trans h1) (by rw [List.length_erase_of_mem hir]; omega)
      rw [mark_append] at h6
      exact h6
theorem run_find {k : TypeId} {key : Value} {w : World} (f : Value → Bool) : ∀ (es : List MapEntry) (i : Nat), (∀ e ∈ es, (Op.equal k key e.key).run P w = .ok (f e.key) w) →
    ∃ r, (Instr.findAsking k key es i).run P w = .ok r w ∧ (match r with | none => ∀ e ∈ es, f e.key = false | some (_, v) => ∃ e ∈ es, f e.key = true ∧ e.val = v) := by
  intro es
  induction es with
  | nil => intro i _; exact ⟨none, rfl, by simp⟩
  | cons e es ih =>
    intro i h
    have he := h e List.mem_cons_self
    by_cases hf : f e.key = true
    · refine ⟨some (i, e.val), ?_, e, List.mem_cons_self, hf, rfl⟩
      rw [hf] at he
      simp [Instr.findAsking, he, Sem.run_bind, Result.andThen]
    · simp only [Bool.not_eq_true] at hf
      obtain ⟨r, h1, h2⟩ := ih (i + 1) (fun e' he' => h e' (List.mem_cons_of_mem _ he'))
      refine ⟨r, ?_, ?_⟩
      · rw [hf] at he
        simp [Instr.findAsking, he, Sem.run_bind, Result.andThen, h1]
      · cases r with
        | none => intro e' he'; rcases List.mem_cons.1 he' with rfl | h'; exact hf; exact h2 e' h'
        | some x => obtain ⟨e', h3, h4⟩ := h2; exact ⟨e', List.mem_cons_of_mem _ h3, h4⟩
def takes (P : Program) (md : Region.Mode) (ops : Array Oper) : List Nat → Array Bool → Act → Option (Array Bool × Act)
  | [], l, a => some (l, a)
  | i :: is, l, a =>
    match ops[i]? with
    | none => none
    | some o =>
      if o.guard.isNone && Region.free md ops l i && (Region.ready md ops l).contains i then
        match calm P (execOp a.eval o) with
        | some (.value v) => takes P md ops is (l.setIfInBounds i true) (a.put o.dst v)
        | _ => none
      else none
theorem wpAny_takes (hs : Region.noSelect ops = true) (hQ : ∀ d v c a w, Q (.panic c) (Act.put a d v) w → Q (.panic c) a w) {w : World} {fuel : Nat} {l' : Array Bool} {a' : Act} :
    ∀ (is : List Nat) {l : Array Bool} {a : Act}, takes P md ops is l a = some (l', a') → wpAny P md ops Q fuel l' a' w → wpAny P md ops Q (fuel + is.length) l a w := by
  intro is
  induction is with
  | nil => intro l a h hk; simp only [takes, Option.some.injEq, Prod.mk.injEq] at h; obtain ⟨rfl, rfl⟩ := h; exact hk
  | cons i is ih =>
    intro l a h hk
    unfold takes at h
    split at h
    · cases h
    · rename_i o ho
      split at h
      · rename_i hc
        simp only [Bool.and_eq_true] at hc
        obtain ⟨⟨hg, hf⟩, hr⟩ := hc
        split at h
        · rename_i v hv
          refine wpAny_take (v := v) (fuel := fuel + is.length) ho hs hf hr (fun c a w => hQ _ _ c a w) ?_ (ih h hk)
          refine Or.inl ⟨?_, fun w => run_calm _ hv w⟩
          unfold Region.wanted
          rw [Option.isNone_iff_eq_none.1 hg]
        · cases h
      · cases h
theorem wpOp_plain {i : Nat} {o : Oper} {K : Act → World → Prop} {a : Act} {w w' : World} (ho : ops[i]? = some o) (hg : o.guard = none) {n : Next} {v : Value} (hn : n = .value v ∨ n = .skip ∧ v = undef)
    (hr : (execOp a.eval o).run P w = .ok n w') (hk : K (a.put o.dst v) w') : wpOp P ops Q i K a w := by
  unfold wpOp
  simp only [ho]
  have hw : Region.wanted o (yielded ops a.tmps) = true := by unfold Region.wanted; rw [hg]
  rw [if_pos hw]
  left
  unfold Oper.wp
  rw [hr]
  rcases hn with rfl | ⟨rfl, rfl⟩ <;> exact hk
theorem wpOp_none {i : Nat} {o : Oper} {K : Act → World → Prop} {a : Act} {w w' : World} (ho : ops[i]? = some o) (hg : o.guard = none) (hd : o.dst = none)
    (hr : (execOp a.eval o).run P w = .ok .skip w') (hk : K a w') : wpOp P ops Q i K a w :=
  wpOp_plain ho hg (Or.inr ⟨rfl, rfl⟩) hr (by rw [hd]; exact hk)
theorem run_insert {ρ : Operand → Value} {t ty : TypeId} {m k x : Operand} {pos : String} {af} {g} {w w' : World} {vm vk vx : Value} (h1 : ρ m = vm) (h2 : ρ k = vk) (h3 : ρ x = vx) (h : (Instr.mapUpdate t vm vk vx).run P w = .ok () w') :
    (execOp ρ ⟨none, .insert t m k x, ty, pos, af, g⟩).run P w = .ok .skip w' := by
  subst h1 h2 h3
  show Sem.run P (Instr.mapUpdate t (ρ m) (ρ k) (ρ x) >>= fun _ => (pure Next.skip : Sem Next)) w = _
  rw [Sem.run_bind, h]; rfl
theorem run_getObj {r c : Nat} {es : Array MapEntry} {w : World} (hb : w.heap[r]? = some (.map es c)) : (getObj r).run P w = .ok (.map es c) w := by
  show Sem.run P (.getObj r .pure) w = _
  rw [Sem.run, hb]; rfl
theorem run_setObj {r c : Nat} {es : Array MapEntry} {o' : Obj} {w : World} (hb : w.heap[r]? = some (.map es c)) : (setObj r o').run P w = .ok () { w with heap := w.heap.setIfInBounds r o' } := by
  show Sem.run P (.setObj r o' (.pure ())) w = _
  rw [Sem.run, hb]; rfl
theorem run_update {t kt et : TypeId} {r c : Nat} {es : Array MapEntry} {key val : Value} {w : World} {fs} (ht : P.underlying t = some (.map kt et)) (hk : P.underlying kt = some (.struct fs)) (hb : w.heap[r]? = some (.map es c))
    (hc : (Instr.checkKey false 10000 kt key).run P w = .ok () w) (heq : ∀ e ∈ es.toList, (Op.equal kt key e.key).run P w = .ok false w) :
    (Instr.mapUpdate t (.map (some r)) key val).run P w = .ok () { w with heap := w.heap.setIfInBounds r (.map (es.push ⟨key, val, c⟩) (c + 1)) } := by
  have hf : (Instr.findKey kt key es.toList).run P w = .ok none w := by
    unfold Instr.findKey
    simp only [Sem.run_bind, run_underlying hk, Result.andThen_ok]
    cases hes : es.toList with
    | nil => simp [Instr.findNow]
    | cons e l =>
      have : Instr.findNow (.struct fs) key (e :: l) 0 = none := by simp [Instr.findNow, Instr.sameNow]
      rw [this]
      obtain ⟨x, h1, h2⟩ := run_find (P := P) (k := kt) (key := key) (w := w) (fun _ => false) (e :: l) 0 (by rw [← hes]; exact heq)
      cases x with
      | none => exact h1
      | some x => obtain ⟨_, _, h3, _⟩ := h2; cases h3
  unfold Instr.mapUpdate
  simp only [Sem.run_bind, run_underlying ht, Result.andThen_ok]
  simp [run_getObj hb, run_setObj hb, hc, hf, go_sem, Result.andThen]
theorem run_look {t kt et : TypeId} {r c : Nat} {es : Array MapEntry} {key z : Value} {w : World} {fs} (f : Value → Bool) (g : Value) (ht : P.underlying t = some (.map kt et)) (hk : P.underlying kt = some (.struct fs)) (hb : w.heap[r]? = some (.map es c)) (hne : es.toList ≠ [])
    (hc : ∀ b, (Instr.checkKey b 10000 kt key).run P w = .ok () w) (heq : ∀ e ∈ es.toList, (Op.equal kt key e.key).run P w = .ok (f e.key) w) (hz : (zeroValue et).run P w = .ok z w)
    (h1 : (∀ e ∈ es.toList, f e.key = false) → g = z) (h2 : ∀ e ∈ es.toList, f e.key = true → e.val = g) :
    (Instr.lookup t (.map (some r)) key false).run P w = .ok g w := by
  obtain ⟨x, h3, h4⟩ := run_find (P := P) (k := kt) (key := key) (w := w) f es.toList 0 heq
  have hf : (Instr.findKey kt key es.toList).run P w = .ok x w := by
    unfold Instr.findKey
    simp only [Sem.run_bind, run_underlying hk, Result.andThen_ok]
    have : Instr.findNow (.struct fs) key es.toList 0 = none := by
      cases hes : es.toList with
      | nil => exact absurd hes hne
      | cons e l => simp [Instr.findNow, Instr.sameNow]
    rw [this]
    exact h3
  unfold Instr.lookup
  simp only [Sem.run_bind, run_underlying ht, Result.andThen_ok]
  cases x with
  | none => rw [h1 h4]; simp [run_getObj hb, hc, hf, hz, go_sem, Result.andThen]
  | some x =>
    obtain ⟨i, v⟩ := x
    obtain ⟨e, he, hfe, hv⟩ := h4
    rw [← h2 e he hfe, hv]
    simp [run_getObj hb, hc, hf, go_sem, Result.andThen]
end Go.Proofs.Ytbcaelhchmoigaa.Bag
namespace Go.Proofs.Ytbcaelhchmoigaa
open Go.RowKit Calm MapRun Bag
theorem keq (a b c d : Int) (w : World) : (Op.equal 136 (.agg #[.int .i64 a, .int .i64 b]) (.agg #[.int .i64 c, .int .i64 d])).run Try.prog w = .ok (a == c && b == d) w := by
  simp [Op.equal, Op.maxDepth, go_sem]
  by_cases h1 : a = c <;> by_cases h2 : b = d <;> simp [h1, h2]
def gkey (b m : Int) : Value := .agg #[.int .i64 b, .int .i64 m]
def gval (x : Int × Int) : Value := .agg #[.int .i64 x.1, .int .i64 x.2]
def grp (b m : Int) : Int × Int :=
  if b = 129 ∧ m = 0 then (15, 4)
  else if b = 129 ∧ m = 4 then (16, 4)
  else if b = 129 ∧ m = 5 then (17, 4)
  else if b = 129 ∧ m = 7 then (18, 4)
  else if b = 247 ∧ m = 3 then (22, 0)
  else if b = 247 ∧ m = 2 then (23, 0)
  else if b = 193 ∧ m = 4 then (24, 1)
  else if b = 193 ∧ m = 5 then (25, 1)
  else (0, 0)
def gks : List Nat := [3, 6, 9, 12, 15, 18, 21, 24]
def gk : Nat → Int × Int
  | 3 => (129, 0)
  | 6 => (129, 4)
  | 9 => (129, 5)
  | 12 => (129, 7)
  | 15 => (247, 3)
  | 18 => (247, 2)
  | 21 => (193, 4)
  | 24 => (193, 5)
  | _ => (0, 0)
def gent (j : Nat) : Value × Value := (gkey (gk j).1 (gk j).2, gval (grp (gk j).1 (gk j).2))
def gEs (done : List Nat) : Array MapEntry := (done.zipIdx.map fun x => (⟨(gent x.1).1, (gent x.1).2, x.2⟩ : MapEntry)).toArray
theorem gEs_push (done : List Nat) (i : Nat) : gEs (done ++ [i]) = (gEs done).push ⟨(gent i).1, (gent i).2, done.length⟩ := by
  unfold gEs; simp [List.zipIdx_append]
theorem gEs_mem {done : List Nat} {e : MapEntry} : e ∈ (gEs done).toList → ∃ j ∈ done, e.key = (gent j).1 ∧ e.val = (gent j).2 := by
  unfold gEs
  intro h
  simp only [List.mem_map] at h
  obtain ⟨⟨j, i⟩, h1, h2⟩ := h
  exact ⟨j, List.fst_mem_of_mem_zipIdx h1, by rw [← h2], by rw [← h2]⟩
theorem gEs_has {done : List Nat} {j : Nat} (h : j ∈ done) : ∃ e ∈ (gEs done).toList, e.key = (gent j).1 := by
  unfold gEs
  obtain ⟨i, h1, rfl⟩ := List.getElem_of_mem h
  exact ⟨⟨(gent done[i]).1, (gent done[i]).2, i⟩, by simp only [List.mem_map]; exact ⟨(done[i], i), by rw [List.mk_mem_zipIdx_iff_getElem?]; simp [h1], rfl⟩, rfl⟩
theorem gk_inj : ∀ i ∈ gks, ∀ j ∈ gks, (gk i).1 = (gk j).1 → (gk i).2 = (gk j).2 → i = j := by decide
def GroupsE (es : Array MapEntry) : Prop := (∀ e ∈ es.toList, ∃ j ∈ gks, e.key = (gent j).1 ∧ e.val = (gent j).2) ∧ (∀ j ∈ gks, ∃ e ∈ es.toList, e.key = (gent j).1)
theorem gEs_good {done : List Nat} (h : done.Perm gks) : GroupsE (gEs done) :=
  ⟨fun e he => by obtain ⟨j, h1, h2⟩ := gEs_mem he; exact ⟨j, h.mem_iff.1 h1, h2⟩, fun j hj => gEs_has (h.mem_iff.2 hj)⟩
theorem ck (b : Bool) (x y : Int) (w : World) : (Instr.checkKey b 10000 136 (gkey x y)).run Try.prog w = .ok () w := by
  cases b <;> exact run_calm _ (by kernel_rfl) w
theorem grp_none (b m : Int) (h : ∀ j ∈ gks, ¬ (b = (gk j).1 ∧ m = (gk j).2)) : grp b m = (0, 0) := by
  unfold grp
  rw [if_neg (show ¬ (b = 129 ∧ m = 0) from h 3 (by decide))]
  rw [if_neg (show ¬ (b = 129 ∧ m = 4) from h 6 (by decide))]
  rw [if_neg (show ¬ (b = 129 ∧ m = 5) from h 9 (by decide))]
  rw [if_neg (show ¬ (b = 129 ∧ m = 7) from h 12 (by decide))]
  rw [if_neg (show ¬ (b = 247 ∧ m = 3) from h 15 (by decide))]
  rw [if_neg (show ¬ (b = 247 ∧ m = 2) from h 18 (by decide))]
  rw [if_neg (show ¬ (b = 193 ∧ m = 4) from h 21 (by decide))]
  rw [if_neg (show ¬ (b = 193 ∧ m = 5) from h 24 (by decide))]
def gmatch (b m : Int) : Value → Bool
  | .agg ⟨[.int .i64 x, .int .i64 y]⟩ => b == x && m == y
  | _ => false
theorem look_group (w : World) (r c : Nat) (es : Array MapEntry) (b m : Int) (hes : GroupsE es) (hr : w.heap[r]? = some (.map es c)) :
    (Instr.lookup 133 (.map (some r)) (gkey b m) false).run Try.prog w = .ok (gval (grp b m)) w := by
  have hf : ∀ e ∈ es.toList, (Op.equal 136 (gkey b m) e.key).run Try.prog w = .ok (gmatch b m e.key) w := by
    intro e he
    obtain ⟨j, hj, h1, _⟩ := hes.1 e he
    rw [h1]
    exact keq _ _ _ _ w
  refine Bag.run_look (et := 132) (fs := Try.prog.fieldsOf 136) (z := gval (0, 0)) (gmatch b m) (gval (grp b m)) (by kernel_rfl) (by kernel_rfl) hr ?_ (fun x => ck x b m w) hf (run_calm _ (by kernel_rfl) w) ?_ ?_
  · intro h
    obtain ⟨e, he, _⟩ := hes.2 3 (by decide)
    rw [h] at he; cases he
  · intro h
    rw [grp_none]
    rintro j hj ⟨h1, h2⟩
    obtain ⟨e, he, h3⟩ := hes.2 j hj
    have := h e he
    rw [h3] at this
    simp only [gent, gkey, gmatch, h1, h2, beq_self_eq_true, Bool.and_self] at this
    cases this
  · intro e he h
    obtain ⟨j, hj, h1, h2⟩ := hes.1 e he
    rw [h1] at h
    simp only [gent, gkey, gmatch, Bool.and_eq_true, beq_iff_eq] at h
    rw [h2, h.1, h.2]; rfl
def gL1 : Array Bool := #[false, true, true, false, true, true, false, true, true, false, true, true, false, true, true, false, true, true, false, true, true, false, true, true, false, false, false]
def gL2 : Array Bool := #[true, true, true, false, true, true, false, true, true, false, true, true, false, true, true, false, true, true, false, true, true, false, true, true, false, false, false]
def gA1 : Act := ⟨#[Value.map none, undef, gkey 129 0, gval (15, 4), gkey 129 4, gval (16, 4), gkey 129 5, gval (17, 4), gkey 129 7, gval (18, 4), gkey 247 3, gval (22, 0), gkey 247 2, gval (23, 0), gkey 193 4, gval (24, 1), gkey 193 5, gval (25, 1), undef], []⟩
def gA2 (r : Nat) : Act := ⟨#[Value.map none, Value.map (some r), gkey 129 0, gval (15, 4), gkey 129 4, gval (16, 4), gkey 129 5, gval (17, 4), gkey 129 7, gval (18, 4), gkey 247 3, gval (22, 0), gkey 247 2, gval (23, 0), gkey 193 4, gval (24, 1), gkey 193 5, gval (25, 1), undef], []⟩
def gA3 (r : Nat) : Act := ⟨#[Value.map (some r), Value.map (some r), gkey 129 0, gval (15, 4), gkey 129 4, gval (16, 4), gkey 129 5, gval (17, 4), gkey 129 7, gval (18, 4), gkey 247 3, gval (22, 0), gkey 247 2, gval (23, 0), gkey 193 4, gval (24, 1), gkey 193 5, gval (25, 1), Value.map (some r)], []⟩
def gL3 : Array Bool := #[true, true, true, true, true, true, true, true, true, true, true, true, true, true, true, true, true, true, true, true, true, true, true, true, true, true, true]
theorem gupd (w : World) (done : List Nat) (i : Nat) (hd : ∀ x ∈ done, x ∈ gks) (hi : i ∈ gks) (hn : i ∉ done) :
    (Instr.mapUpdate 133 (.map (some w.heap.size)) (gent i).1 (gent i).2).run Try.prog (w.alloc (.map (gEs done) done.length)) = .ok () (w.alloc (.map (gEs (done ++ [i])) (done ++ [i]).length)) := by
  have hu := run_update (P := Try.prog) (t := 133) (kt := 136) (et := 132) (key := (gent i).1) (val := (gent i).2) (fs := Try.prog.fieldsOf 136) (by kernel_rfl) (by kernel_rfl) (heap_last w (.map (gEs done) done.length)) (ck false _ _ _) (fun e he => ?_)
  · rw [hu, set_last, gEs_push]; simp
  · obtain ⟨j, hj, h1, _⟩ := gEs_mem he
    rw [h1]
    refine (keq _ _ _ _ _).trans ?_
    have hne : ((gk i).1 == (gk j).1 && (gk i).2 == (gk j).2) = false := by
      rw [Bool.eq_false_iff]
      intro h
      simp only [Bool.and_eq_true, beq_iff_eq] at h
      have := gk_inj i hi j (hd j hj) h.1 h.2
      subst this; exact hn hj
    rw [hne]
theorem groups_any (w : World) :
    Calls Try.prog 101 #[] w fun e w' => e = .returned (.map (some w.heap.size)) ∧ ∃ es c, GroupsE es ∧ w.drew.alloc (.map es c) = w' := by
  go_enter Try.func101, Try.ntmps101
  go_wp2_with fail
  refine wp_region_any (by kernel_rfl) ?_
  refine wpAny_takes (fuel := 11) (by kernel_rfl) ?_ [1, 2, 4, 5, 7, 8, 10, 11, 13, 14, 16, 17, 19, 20, 22, 23] (l' := gL1) (a' := gA1) (by kernel_rfl) ?_
  · intro d v c a w h; cases d <;> exact h
  refine wpAny_all (rs := [0]) (by kernel_rfl) (by decide) ?_
  intro i hi
  obtain rfl : i = 0 := by simpa using hi
  refine wpOp_plain (o := ⟨some 1, .makeMap 133 none, 133, "decode.go:120", #[], none⟩) (v := .map (some w.heap.size)) (n := .value (.map (some w.heap.size))) (w' := w.drew.alloc (.map #[] 0)) (by kernel_rfl) rfl (Or.inl rfl) ?_ ?_
  · rfl
  refine wpAny_bag (js := gks) (L := gL2) (a := gA2 w.heap.size) (W := fun done => w.drew.alloc (.map (gEs done) done.length)) (fuel := 2) (by decide) (fun j hj => by rw [show Region.ready _ _ gL2 = gks from by kernel_rfl]; exact hj) (by kernel_rfl) ?_ ?_ 8 [] gks (by simp) rfl
  · intro done i K hd hi hn hK
    have hu := gupd w.drew done i hd hi hn
    rcases (show i = 3 ∨ i = 6 ∨ i = 9 ∨ i = 12 ∨ i = 15 ∨ i = 18 ∨ i = 21 ∨ i = 24 by simpa [gks] using hi) with h | h | h | h | h | h | h | h <;> subst h
    all_goals
      refine wpOp_none (w' := _) rfl rfl rfl ?_ hK
      exact run_insert rfl rfl rfl hu
  · intro done hp
    refine wpAny_takes (fuel := 0) (by kernel_rfl) ?_ [25, 26] (l' := gL3) (a' := gA3 w.heap.size) (by kernel_rfl) ?_
    · intro d v c a w h; cases d <;> exact h
    refine wpAny_done (by kernel_rfl) ?_ 0
    unfold gA3
    go_wp2
    exact bodyPost_ret (results_tmp rfl _ _ _) rfl ⟨rfl, gEs done, done.length, gEs_good hp, rfl⟩
end Go.Proofs.Ytbcaelhchmoigaa
namespace Go.Proofs.Ytbcaelhchmoigaa
def zeroI : Ins := ⟨0, 0, 0, 0, 0, 0, 0, 0, 0⟩
def winD (l : List Int) : Ins × Cur := anyD (l.take 16) false
def usedD (l : List Int) : Nat := (l.take 16).length - (winD l).2.1.length
def goodD (l : List Int) : Bool := !(winD l).2.2 && (winD l).1.chk && decide ((winD l).1.enc = (l.take 16).take (usedD l))
def rdD (l : List Int) : Ins × Nat × Int := if goodD l then ((winD l).1, usedD l, 0) else (zeroI, 0, 4)
theorem rd_hit (x : Ins) (r : List Int) (h : x.chk = true) (hi : x.ok) : rdD (x.enc ++ r) = (x, x.enc.length, 0) := by
  have hl := (Ins.enc_bytes h).2
  have e1 : (x.enc ++ r).take 16 = x.enc ++ r.take (16 - x.enc.length) := by
    rw [List.take_append, List.take_of_length_le (by omega)]
  have e2 : winD (x.enc ++ r) = (x, r.take (16 - x.enc.length), false) := by
    unfold winD; rw [e1]; exact dec_any x _ h hi.2
  have e3 : usedD (x.enc ++ r) = x.enc.length := by
    unfold usedD; rw [e2, e1, List.length_append]; simp
  have e4 : goodD (x.enc ++ r) = true := by
    unfold goodD; rw [e2, e3, e1, h]; simp
  unfold rdD
  rw [if_pos e4, e2, e3]
theorem any_left (l : List Int) : ∀ k, (anyD l k).2.1.length ≤ l.length := by
  have hv : ∀ (n : Nat) (c : Cur), (valD n c).2.1.length ≤ c.1.length := by
    intro n
    induction n with
    | zero => intro c; exact Nat.le_refl _
    | succ n ih =>
      rintro ⟨l, k⟩
      cases l with
      | nil => have := ih ([], true); simpa [valD, nx] using this
      | cons x l => have := ih (l, k); simp [valD, nx] at this ⊢; omega
  have hn : ∀ c : Cur, (nx c).2.1.length ≤ c.1.length := by
    rintro ⟨l, k⟩; cases l <;> simp [nx]
  have hnum : ∀ (n : Nat) (c : Cur), (numD n c).2.1.length ≤ c.1.length := hv
  have hsib : ∀ r rm c, (sibD r rm c).2.1.length ≤ c.1.length := by
    intro r rm c; unfold sibD; split
    · exact hn c
    · exact Nat.le_refl _
  have hdisp : ∀ rm c, (dispD rm c).2.1.length ≤ c.1.length := by
    intro rm c; unfold dispD; split
    · exact hnum 1 c
    · split
      · exact hnum 4 c
      · exact Nat.le_refl _
  have hmov : ∀ op r rm c, (movD op r rm c).2.1.length ≤ c.1.length := by
    intro op r rm c; unfold movD; exact Nat.le_trans (hdisp _ _) (hsib _ _ _)
  have hwide : ∀ r c, (wideD r c).2.1.length ≤ c.1.length := by
    intro r c
    have h1 := hn c
    have h2 := hn (nx c).2
    have h3 := hn (nx (nx c).2).2
    unfold wideD wideB
    repeat' split
    · unfold pairB; exact Nat.le_trans h2 h1
    · exact Nat.le_trans (hmov _ _ _ _) (Nat.le_trans h2 h1)
    · exact Nat.le_trans (hmov _ _ _ _) (Nat.le_trans h2 h1)
    · unfold storeB; split
      · unfold pairB; exact Nat.le_trans h2 h1
      · exact Nat.le_trans (hmov _ _ _ _) (Nat.le_trans h2 h1)
    · unfold immB; exact Nat.le_trans (hnum _ _) h1
    · unfold cmovB; exact Nat.le_trans h3 (Nat.le_trans h2 h1)
    · unfold grpC; split
      · exact Nat.le_trans h2 h1
      · exact Nat.le_trans (hnum _ _) (Nat.le_trans h2 h1)
  induction l with
  | nil => intro k; exact hwide 0 ([], true)
  | cons b r ih =>
    intro k
    have g0 := hn (r, k)
    have g1 := hn (nx (r, k)).2
    have g2 := hn (nx (nx (r, k)).2).2
    have g3 := hn (nx (nx (nx (r, k)).2).2).2
    have g4 := hn (nx (nx (nx (nx (r, k)).2).2).2).2
    have i0 := hnum 4 (r, k)
    have i1 := hnum 4 (nx (r, k)).2
    have w0 := hwide b (r, k)
    have ih' := ih k
    simp only at g0 i0 w0
    rw [anyD]
    repeat' split
    all_goals simp only [chainD, List.length_cons]
    all_goals omega
theorem num_ok {c : Cur} (h : RestB c) (k : Nat) (hk : k = 1 ∨ k = 4 ∨ k = 8) : -9223372036854775808 ≤ (numD k c).1 ∧ (numD k c).1 ≤ 9223372036854775807 := by
  have hv := (rest_val h k).2
  unfold numD sgnD
  rcases hk with rfl | rfl | rfl
  · rw [half1]; simp only; split <;> omega
  · rw [half4]; simp only; split <;> omega
  · rw [half8]; simp only; split <;> omega
theorem any_ok (l : List Int) (hl : ∀ x ∈ l, Byte x) : ∀ k, (anyD l k).1.ok := by
  have hz : ∀ op d s t mb mi ms : Int, (⟨op, d, s, t, mb, mi, ms, 0, 0⟩ : Ins).ok := by intros; unfold Ins.ok; simp
  have hsib : ∀ r rm c, RestB c → RestB (sibD r rm c).2 := by
    intro r rm c h; unfold sibD; split
    · exact (RestB.nx h).2
    · exact h
  have hdisp : ∀ rm c, RestB c → -9223372036854775808 ≤ (dispD rm c).1 ∧ (dispD rm c).1 ≤ 9223372036854775807 := by
    intro rm c h; unfold dispD; split
    · exact num_ok h 1 (by omega)
    · split
      · exact num_ok h 4 (by omega)
      · simp
  have hmov : ∀ op r rm c, RestB c → (movD op r rm c).1.ok := by
    intro op r rm c h; unfold movD Ins.ok; exact ⟨hdisp _ _ (hsib _ _ _ h), by simp⟩
  have hwide : ∀ r c, RestB c → (wideD r c).1.ok := by
    intro r c h
    have h1 := (RestB.nx h).2
    have h2 := (RestB.nx h1).2
    unfold wideD wideB
    repeat' split
    · unfold pairB; exact hz _ _ _ _ _ _ _
    · exact hmov _ _ _ _ h2
    · exact hmov _ _ _ _ h2
    · unfold storeB; split
      · unfold pairB; exact hz _ _ _ _ _ _ _
      · exact hmov _ _ _ _ h2
    · unfold immB Ins.ok; exact ⟨by simp, num_ok h1 8 (by omega)⟩
    · unfold cmovB; exact hz _ _ _ _ _ _ _
    · unfold grpC
      split
      · exact hz _ _ _ _ _ _ _
      · rename_i hg
        refine ⟨by simp, num_ok h2 _ ?_⟩
        unfold grpOp at hg ⊢
        repeat' split
        all_goals simp_all
  induction l with
  | nil => intro k; exact hwide 0 ([], true) (fun x hx => by cases hx)
  | cons b r ih =>
    intro k
    have hr : RestB (r, k) := fun x hx => hl x (List.mem_cons_of_mem _ hx)
    have h1 := (RestB.nx hr).2
    rw [anyD]
    repeat' split
    · exact hz _ _ _ _ _ _ _
    · exact hz _ _ _ _ _ _ _
    · exact hz _ _ _ _ _ _ _
    · have := ih (fun x hx => hl x (List.mem_cons_of_mem _ hx)) k
      unfold up8; split <;> exact this
    · exact ⟨by simp, num_ok hr 4 (by omega)⟩
    · exact ⟨by simp, num_ok h1 4 (by omega)⟩
    · unfold mulD; exact hz _ _ _ _ _ _ _
    · unfold chainD; exact hz _ _ _ _ _ _ _
    · unfold chainD; exact hz _ _ _ _ _ _ _
    · exact hwide _ _ hr
theorem win_ok (l : List Int) (hl : ∀ x ∈ l, Byte x) : (winD l).1.ok := any_ok _ (fun x hx => hl x (List.mem_of_mem_take hx)) false
theorem rd_cases (l : List Int) (hl : ∀ x ∈ l, Byte x) : (∃ x r, l = x.enc ++ r ∧ x.chk = true ∧ x.ok ∧ rdD l = (x, x.enc.length, 0)) ∨ ((∀ (x : Ins) (r : List Int), x.chk = true → x.ok → l ≠ x.enc ++ r) ∧ rdD l = (zeroI, 0, 4)) := by
  cases hg : goodD l
  · right
    refine ⟨fun x r h1 h2 h3 => ?_, by unfold rdD; rw [if_neg (by rw [hg]; decide)]⟩
    have := rd_hit x r h1 h2
    rw [← h3] at this
    unfold rdD at this
    rw [if_neg (by rw [hg]; decide)] at this
    have := congrArg (fun y => y.2.2) this
    simp at this
  · left
    have hg' := hg
    unfold goodD at hg'
    simp only [Bool.and_eq_true, decide_eq_true_eq] at hg'
    obtain ⟨⟨h1, h2⟩, h3⟩ := hg'
    have hu : usedD l ≤ (l.take 16).length := by unfold usedD; omega
    have hlen : (winD l).1.enc.length = usedD l := by rw [h3, List.length_take]; omega
    refine ⟨(winD l).1, l.drop (usedD l), ?_, h2, win_ok l hl, ?_⟩
    · rw [h3, List.take_take]
      have : min (usedD l) 16 = usedD l := by rw [List.length_take] at hu; omega
      rw [this, List.take_append_drop]
    · unfold rdD; rw [if_pos hg, hlen]
end Go.Proofs.Ytbcaelhchmoigaa
