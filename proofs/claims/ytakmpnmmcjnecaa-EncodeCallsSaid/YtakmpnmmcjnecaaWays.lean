/- encode.ways, encode.scales (layer 6): two maps, and what is found in them. -/
import Derived.Test.YtakmpnmmcjnecaaMapRun
import Derived.Test.YtakmpnmmcjnecaaEnc
namespace Go.Proofs.Ytakmpnmmcjnecaa
open Go.RowKit Calm MapRun

def fnV (f : Nat) : Value := .func (.func f) #[] #[]
def waysE : Array MapEntry := #[
  ⟨.int .i64 1, .agg #[.int .u8 137, .int .u8 0, fnV 48], 0⟩,
  ⟨.int .i64 6, .agg #[.int .u8 1, .int .u8 0, fnV 48], 1⟩,
  ⟨.int .i64 7, .agg #[.int .u8 17, .int .u8 0, fnV 48], 2⟩,
  ⟨.int .i64 8, .agg #[.int .u8 41, .int .u8 0, fnV 48], 3⟩,
  ⟨.int .i64 9, .agg #[.int .u8 25, .int .u8 0, fnV 48], 4⟩,
  ⟨.int .i64 10, .agg #[.int .u8 33, .int .u8 0, fnV 48], 5⟩,
  ⟨.int .i64 11, .agg #[.int .u8 9, .int .u8 0, fnV 48], 6⟩,
  ⟨.int .i64 12, .agg #[.int .u8 49, .int .u8 0, fnV 48], 7⟩,
  ⟨.int .i64 13, .agg #[.int .u8 57, .int .u8 0, fnV 48], 8⟩,
  ⟨.int .i64 14, .agg #[.int .u8 133, .int .u8 0, fnV 48], 9⟩,
  ⟨.int .i64 2, .agg #[.int .u8 184, .int .u8 0, fnV 49], 10⟩,
  ⟨.int .i64 3, .agg #[.int .u8 139, .int .u8 0, fnV 50], 11⟩,
  ⟨.int .i64 4, .agg #[.int .u8 137, .int .u8 0, fnV 51], 12⟩,
  ⟨.int .i64 5, .agg #[.int .u8 141, .int .u8 0, fnV 50], 13⟩,
  ⟨.int .i64 15, .agg #[.int .u8 129, .int .u8 0, fnV 52], 14⟩,
  ⟨.int .i64 16, .agg #[.int .u8 129, .int .u8 4, fnV 52], 15⟩,
  ⟨.int .i64 17, .agg #[.int .u8 129, .int .u8 5, fnV 52], 16⟩,
  ⟨.int .i64 18, .agg #[.int .u8 129, .int .u8 7, fnV 52], 17⟩,
  ⟨.int .i64 19, .agg #[.int .u8 196, .int .u8 246, fnV 53], 18⟩,
  ⟨.int .i64 20, .agg #[.int .u8 102, .int .u8 246, fnV 54], 19⟩,
  ⟨.int .i64 21, .agg #[.int .u8 243, .int .u8 246, fnV 54], 20⟩,
  ⟨.int .i64 22, .agg #[.int .u8 247, .int .u8 3, fnV 55], 21⟩,
  ⟨.int .i64 23, .agg #[.int .u8 247, .int .u8 2, fnV 55], 22⟩,
  ⟨.int .i64 24, .agg #[.int .u8 193, .int .u8 4, fnV 56], 23⟩,
  ⟨.int .i64 25, .agg #[.int .u8 193, .int .u8 5, fnV 56], 24⟩,
  ⟨.int .i64 26, .agg #[.int .u8 15, .int .u8 66, fnV 57], 25⟩,
  ⟨.int .i64 27, .agg #[.int .u8 15, .int .u8 69, fnV 57], 26⟩,
  ⟨.int .i64 28, .agg #[.int .u8 80, .int .u8 0, fnV 58], 27⟩,
  ⟨.int .i64 29, .agg #[.int .u8 88, .int .u8 0, fnV 58], 28⟩,
  ⟨.int .i64 30, .agg #[.int .u8 233, .int .u8 0, fnV 59], 29⟩,
  ⟨.int .i64 31, .agg #[.int .u8 15, .int .u8 133, fnV 59], 30⟩,
  ⟨.int .i64 32, .agg #[.int .u8 15, .int .u8 130, fnV 59], 31⟩,
  ⟨.int .i64 33, .agg #[.int .u8 195, .int .u8 0, fnV 60], 32⟩]
def scalesE : Array MapEntry := #[⟨.int .i64 1, .int .u8 0, 0⟩, ⟨.int .i64 2, .int .u8 1, 1⟩, ⟨.int .i64 4, .int .u8 2, 2⟩, ⟨.int .i64 8, .int .u8 3, 3⟩]

set_option maxHeartbeats 1000000 in
theorem scales_any (w : World) :
    Calls Try.prog 90 #[] w fun e w' => e = .returned (.map (some w.heap.size)) ∧ w.alloc (.map scalesE 4) = w' := by
  have hmm := @run_makeMap Try.prog
  go_enter Try.func90, Try.ntmps90
  go_wp2_with (refine wpList_mops_all 8 (.tmp 0) (.map (some w.heap.size)) scalesE 4 (by kernel_rfl) (by kernel_rfl) (by kernel_rfl) (by kernel_rfl) (by kernel_rfl) ?_)
  intro a' h1 h2
  go_wp2
  exact bodyPost_ret (results_tmp rfl _ _ _) h2 ⟨by have := h1; simp only [Act.eval] at this; rw [← this], rfl⟩
set_option maxHeartbeats 1000000 in
set_option maxRecDepth 100000 in
theorem ways_any (w : World) :
    Calls Try.prog 38 #[] w fun e w' => e = .returned (.map (some w.heap.size)) ∧ w.alloc (.map waysE 33) = w' := by
  have hmm := @run_makeMap Try.prog
  go_enter Try.func38, Try.ntmps38
  simp only [List.append_eq, List.cons_append, List.nil_append]
  go_wp2_with (refine wpList_mops_all 66 (.tmp 0) (.map (some w.heap.size)) waysE 33 (by kernel_rfl) (by kernel_rfl) (by kernel_rfl) (by kernel_rfl) (by kernel_rfl) ?_)
  intro a' h1 h2
  go_wp2
  exact bodyPost_ret (results_tmp rfl _ _ _) h2 ⟨by have := h1; simp only [Act.eval] at this; rw [← this], rfl⟩

/-! What is found -/
theorem run_look {P : Program} (w : World) {s : Sem Value} {es : Array MapEntry} {c : Nat} {v : Value} (r : Nat) (hr : r = w.heap.size) (h1 : (mrun P s es c []).map (fun y => (y.2.2.2)) = some [r]) (h2 : (mrun P s es c []).map (fun y => y.1) = some v)
    (h3 : (mrun P s es c []).map (fun y => y.2.1) = some es) (h4 : (mrun P s es c []).map (fun y => y.2.2.1) = some c) : s.run P (w.alloc (.map es c)) = .ok v (w.alloc (.map es c)) := by
  cases e : mrun P s es c [] with
  | none => rw [e] at h1; simp at h1
  | some y =>
    rw [e] at h1 h2 h3 h4
    simp only [Option.map_some, Option.some.injEq] at h1 h2 h3 h4
    have := run_mrun w s e (fun z hz => by rw [h1] at hz; simp at hz; omega)
    rw [this, h2, h3, h4]
def scaleI (s : Int) : Int := if s = 2 then 1 else if s = 4 then 2 else if s = 8 then 3 else 0
theorem look_scale (w : World) (r : Nat) (hr : r = w.heap.size) (s : Int) (h : s = 1 ∨ s = 2 ∨ s = 4 ∨ s = 8) :
    (Instr.lookup 119 (.map (some r)) (.int .i64 s) false).run Try.prog (w.alloc (.map scalesE 4)) = .ok (.int .u8 (scaleI s)) (w.alloc (.map scalesE 4)) := by
  rcases h with rfl | rfl | rfl | rfl <;> exact run_look w r hr (by kernel_rfl) (by kernel_rfl) (by kernel_rfl) (by kernel_rfl)
end Go.Proofs.Ytakmpnmmcjnecaa
