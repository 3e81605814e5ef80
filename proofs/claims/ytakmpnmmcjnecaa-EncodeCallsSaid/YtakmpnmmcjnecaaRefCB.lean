/- keysmithref05 (the document's answer for layer 5): Check, its cases B. Conditions: none. -/
import Derived.Test.YtakmpnmmcjnecaaRefP
namespace Go.Proofs.Ytakmpnmmcjnecaa
open Go.RowKit Calm

set_option maxRecDepth 100000 in
set_option maxHeartbeats 2000000 in
theorem rcheck_SM_0 (op d s t mb mi ms md imm : Int) (w : World) (hf : formB op = ⟨#[83, 77]⟩) (h0 : (d == 0) = false) :
    Calls Try.prog 14 #[.agg #[.int .i64 op, .int .i64 d, .int .i64 s, .int .i64 t, .int .i64 mb, .int .i64 mi, .int .i64 ms, .int .i64 md, .int .i64 imm]] w fun e w' => e = .returned (.int .i64 2) ∧ Below w.heap.size w w' := by
  have B1 : ∀ o, Below w.heap.size w (w.alloc o) := fun o => (Below.refl _ _).alloc (Nat.le_refl _) o
  have c68 : hasC ⟨#[83, 77]⟩ 68 = false := by decide +kernel
  have c83 : hasC ⟨#[83, 77]⟩ 83 = true := by decide +kernel
  have c84 : hasC ⟨#[83, 77]⟩ 84 = false := by decide +kernel
  have c77 : hasC ⟨#[83, 77]⟩ 77 = true := by decide +kernel
  have c105 : hasC ⟨#[83, 77]⟩ 105 = false := by decide +kernel
  have c98 : hasC ⟨#[83, 77]⟩ 98 = false := by decide +kernel
  have c73 : hasC ⟨#[83, 77]⟩ 73 = false := by decide +kernel
  go_enter Try.func14, Try.ntmps14
  go_wp2_with (first | (go_at_call 16; refine (form_any _ _).mono ?_; rw [hf]; rintro e w' ⟨rfl, rfl⟩) | (go_at_call 15; refine (rhas_any _ _ _ (by decide)).mono ?_; (first | rw [c68] | rw [c83] | rw [c84] | rw [c77] | rw [c105] | rw [c98] | rw [c73]); rintro e w' ⟨rfl, rfl⟩))
  go_ret
  first | exact ⟨rfl, B1 _⟩ | exact ⟨rfl, (B1 _).trans (hb1.mono (by simp))⟩
set_option maxRecDepth 100000 in
set_option maxHeartbeats 2000000 in
theorem rcheck_SM_1 (op d s t mb mi ms md imm : Int) (w : World) (hf : formB op = ⟨#[83, 77]⟩) (h0 : (d == 0) = true) (h1 : reg s = false) :
    Calls Try.prog 14 #[.agg #[.int .i64 op, .int .i64 d, .int .i64 s, .int .i64 t, .int .i64 mb, .int .i64 mi, .int .i64 ms, .int .i64 md, .int .i64 imm]] w fun e w' => e = .returned (.int .i64 2) ∧ Below w.heap.size w w' := by
  have B1 : ∀ o, Below w.heap.size w (w.alloc o) := fun o => (Below.refl _ _).alloc (Nat.le_refl _) o
  have c68 : hasC ⟨#[83, 77]⟩ 68 = false := by decide +kernel
  have c83 : hasC ⟨#[83, 77]⟩ 83 = true := by decide +kernel
  have c84 : hasC ⟨#[83, 77]⟩ 84 = false := by decide +kernel
  have c77 : hasC ⟨#[83, 77]⟩ 77 = true := by decide +kernel
  have c105 : hasC ⟨#[83, 77]⟩ 105 = false := by decide +kernel
  have c98 : hasC ⟨#[83, 77]⟩ 98 = false := by decide +kernel
  have c73 : hasC ⟨#[83, 77]⟩ 73 = false := by decide +kernel
  go_enter Try.func14, Try.ntmps14
  go_wp2_with (first | (go_at_call 16; refine (form_any _ _).mono ?_; rw [hf]; rintro e w' ⟨rfl, rfl⟩) | (go_at_call 15; refine (rhas_any _ _ _ (by decide)).mono ?_; (first | rw [c68] | rw [c83] | rw [c84] | rw [c77] | rw [c105] | rw [c98] | rw [c73]); rintro e w' ⟨rfl, rfl⟩) | (go_at_call 34; refine (rregister_any _ _).mono ?_; (first | rw [h1]); rintro e w' ⟨rfl, rfl⟩))
  go_ret
  first | exact ⟨rfl, B1 _⟩ | exact ⟨rfl, (B1 _).trans (hb1.mono (by simp))⟩
set_option maxRecDepth 100000 in
set_option maxHeartbeats 2000000 in
theorem rcheck_SM_2 (op d s t mb mi ms md imm : Int) (w : World) (hf : formB op = ⟨#[83, 77]⟩) (h0 : (d == 0) = true) (h1 : reg s = true) (h2 : (t == 0) = false) :
    Calls Try.prog 14 #[.agg #[.int .i64 op, .int .i64 d, .int .i64 s, .int .i64 t, .int .i64 mb, .int .i64 mi, .int .i64 ms, .int .i64 md, .int .i64 imm]] w fun e w' => e = .returned (.int .i64 2) ∧ Below w.heap.size w w' := by
  have B1 : ∀ o, Below w.heap.size w (w.alloc o) := fun o => (Below.refl _ _).alloc (Nat.le_refl _) o
  have c68 : hasC ⟨#[83, 77]⟩ 68 = false := by decide +kernel
  have c83 : hasC ⟨#[83, 77]⟩ 83 = true := by decide +kernel
  have c84 : hasC ⟨#[83, 77]⟩ 84 = false := by decide +kernel
  have c77 : hasC ⟨#[83, 77]⟩ 77 = true := by decide +kernel
  have c105 : hasC ⟨#[83, 77]⟩ 105 = false := by decide +kernel
  have c98 : hasC ⟨#[83, 77]⟩ 98 = false := by decide +kernel
  have c73 : hasC ⟨#[83, 77]⟩ 73 = false := by decide +kernel
  go_enter Try.func14, Try.ntmps14
  go_wp2_with (first | (go_at_call 16; refine (form_any _ _).mono ?_; rw [hf]; rintro e w' ⟨rfl, rfl⟩) | (go_at_call 15; refine (rhas_any _ _ _ (by decide)).mono ?_; (first | rw [c68] | rw [c83] | rw [c84] | rw [c77] | rw [c105] | rw [c98] | rw [c73]); rintro e w' ⟨rfl, rfl⟩) | (go_at_call 34; refine (rregister_any _ _).mono ?_; (first | rw [h1]); rintro e w' ⟨rfl, rfl⟩))
  go_ret
  first | exact ⟨rfl, B1 _⟩ | exact ⟨rfl, (B1 _).trans (hb1.mono (by simp))⟩
set_option maxRecDepth 100000 in
set_option maxHeartbeats 2000000 in
theorem rcheck_SM_3 (op d s t mb mi ms md imm : Int) (w : World) (hf : formB op = ⟨#[83, 77]⟩) (h0 : (d == 0) = true) (h1 : reg s = true) (h2 : (t == 0) = true) (h3 : plc mb mi ms md = false) :
    Calls Try.prog 14 #[.agg #[.int .i64 op, .int .i64 d, .int .i64 s, .int .i64 t, .int .i64 mb, .int .i64 mi, .int .i64 ms, .int .i64 md, .int .i64 imm]] w fun e w' => e = .returned (.int .i64 2) ∧ Below w.heap.size w w' := by
  have B1 : ∀ o, Below w.heap.size w (w.alloc o) := fun o => (Below.refl _ _).alloc (Nat.le_refl _) o
  have c68 : hasC ⟨#[83, 77]⟩ 68 = false := by decide +kernel
  have c83 : hasC ⟨#[83, 77]⟩ 83 = true := by decide +kernel
  have c84 : hasC ⟨#[83, 77]⟩ 84 = false := by decide +kernel
  have c77 : hasC ⟨#[83, 77]⟩ 77 = true := by decide +kernel
  have c105 : hasC ⟨#[83, 77]⟩ 105 = false := by decide +kernel
  have c98 : hasC ⟨#[83, 77]⟩ 98 = false := by decide +kernel
  have c73 : hasC ⟨#[83, 77]⟩ 73 = false := by decide +kernel
  go_enter Try.func14, Try.ntmps14
  go_wp2_with (first | (go_at_call 16; refine (form_any _ _).mono ?_; rw [hf]; rintro e w' ⟨rfl, rfl⟩) | (go_at_call 15; refine (rhas_any _ _ _ (by decide)).mono ?_; (first | rw [c68] | rw [c83] | rw [c84] | rw [c77] | rw [c105] | rw [c98] | rw [c73]); rintro e w' ⟨rfl, rfl⟩) | (go_at_call 34; refine (rregister_any _ _).mono ?_; (first | rw [h1]); rintro e w' ⟨rfl, rfl⟩) | (go_at_call 35; refine (rplace_any _ _ _ _ _).mono ?_; rw [h3]; rintro e w1 ⟨rfl, hb1⟩; have hc8 : w1.cell? ⟨w.heap.size, 8, none⟩ = some (.int .i64 imm) := ((bcell hb1).1 _ _ (by simp)).trans (by go_simp)))
  go_ret
  first | exact ⟨rfl, B1 _⟩ | exact ⟨rfl, (B1 _).trans (hb1.mono (by simp))⟩
set_option maxRecDepth 100000 in
set_option maxHeartbeats 2000000 in
theorem rcheck_SM_4 (op d s t mb mi ms md imm : Int) (w : World) (hf : formB op = ⟨#[83, 77]⟩) (h0 : (d == 0) = true) (h1 : reg s = true) (h2 : (t == 0) = true) (h3 : plc mb mi ms md = true) (h4 : (imm == 0) = false) :
    Calls Try.prog 14 #[.agg #[.int .i64 op, .int .i64 d, .int .i64 s, .int .i64 t, .int .i64 mb, .int .i64 mi, .int .i64 ms, .int .i64 md, .int .i64 imm]] w fun e w' => e = .returned (.int .i64 2) ∧ Below w.heap.size w w' := by
  have B1 : ∀ o, Below w.heap.size w (w.alloc o) := fun o => (Below.refl _ _).alloc (Nat.le_refl _) o
  have c68 : hasC ⟨#[83, 77]⟩ 68 = false := by decide +kernel
  have c83 : hasC ⟨#[83, 77]⟩ 83 = true := by decide +kernel
  have c84 : hasC ⟨#[83, 77]⟩ 84 = false := by decide +kernel
  have c77 : hasC ⟨#[83, 77]⟩ 77 = true := by decide +kernel
  have c105 : hasC ⟨#[83, 77]⟩ 105 = false := by decide +kernel
  have c98 : hasC ⟨#[83, 77]⟩ 98 = false := by decide +kernel
  have c73 : hasC ⟨#[83, 77]⟩ 73 = false := by decide +kernel
  go_enter Try.func14, Try.ntmps14
  go_wp2_with (first | (go_at_call 16; refine (form_any _ _).mono ?_; rw [hf]; rintro e w' ⟨rfl, rfl⟩) | (go_at_call 15; refine (rhas_any _ _ _ (by decide)).mono ?_; (first | rw [c68] | rw [c83] | rw [c84] | rw [c77] | rw [c105] | rw [c98] | rw [c73]); rintro e w' ⟨rfl, rfl⟩) | (go_at_call 34; refine (rregister_any _ _).mono ?_; (first | rw [h1]); rintro e w' ⟨rfl, rfl⟩) | (go_at_call 35; refine (rplace_any _ _ _ _ _).mono ?_; rw [h3]; rintro e w1 ⟨rfl, hb1⟩; have hc8 : w1.cell? ⟨w.heap.size, 8, none⟩ = some (.int .i64 imm) := ((bcell hb1).1 _ _ (by simp)).trans (by go_simp)))
  go_ret
  first | exact ⟨rfl, B1 _⟩ | exact ⟨rfl, (B1 _).trans (hb1.mono (by simp))⟩
set_option maxRecDepth 100000 in
set_option maxHeartbeats 2000000 in
theorem rcheck_SM_5 (op d s t mb mi ms md imm : Int) (w : World) (hf : formB op = ⟨#[83, 77]⟩) (h0 : (d == 0) = true) (h1 : reg s = true) (h2 : (t == 0) = true) (h3 : plc mb mi ms md = true) (h4 : (imm == 0) = true) :
    Calls Try.prog 14 #[.agg #[.int .i64 op, .int .i64 d, .int .i64 s, .int .i64 t, .int .i64 mb, .int .i64 mi, .int .i64 ms, .int .i64 md, .int .i64 imm]] w fun e w' => e = .returned (.int .i64 0) ∧ Below w.heap.size w w' := by
  have B1 : ∀ o, Below w.heap.size w (w.alloc o) := fun o => (Below.refl _ _).alloc (Nat.le_refl _) o
  have c68 : hasC ⟨#[83, 77]⟩ 68 = false := by decide +kernel
  have c83 : hasC ⟨#[83, 77]⟩ 83 = true := by decide +kernel
  have c84 : hasC ⟨#[83, 77]⟩ 84 = false := by decide +kernel
  have c77 : hasC ⟨#[83, 77]⟩ 77 = true := by decide +kernel
  have c105 : hasC ⟨#[83, 77]⟩ 105 = false := by decide +kernel
  have c98 : hasC ⟨#[83, 77]⟩ 98 = false := by decide +kernel
  have c73 : hasC ⟨#[83, 77]⟩ 73 = false := by decide +kernel
  go_enter Try.func14, Try.ntmps14
  go_wp2_with (first | (go_at_call 16; refine (form_any _ _).mono ?_; rw [hf]; rintro e w' ⟨rfl, rfl⟩) | (go_at_call 15; refine (rhas_any _ _ _ (by decide)).mono ?_; (first | rw [c68] | rw [c83] | rw [c84] | rw [c77] | rw [c105] | rw [c98] | rw [c73]); rintro e w' ⟨rfl, rfl⟩) | (go_at_call 34; refine (rregister_any _ _).mono ?_; (first | rw [h1]); rintro e w' ⟨rfl, rfl⟩) | (go_at_call 35; refine (rplace_any _ _ _ _ _).mono ?_; rw [h3]; rintro e w1 ⟨rfl, hb1⟩; have hc8 : w1.cell? ⟨w.heap.size, 8, none⟩ = some (.int .i64 imm) := ((bcell hb1).1 _ _ (by simp)).trans (by go_simp)))
  go_ret
  first | exact ⟨rfl, B1 _⟩ | exact ⟨rfl, (B1 _).trans (hb1.mono (by simp))⟩
theorem rcheck_SM (op d s t mb mi ms md imm : Int) (w : World) (hf : formB op = ⟨#[83, 77]⟩) :
    Calls Try.prog 14 #[.agg #[.int .i64 op, .int .i64 d, .int .i64 s, .int .i64 t, .int .i64 mb, .int .i64 mi, .int .i64 ms, .int .i64 md, .int .i64 imm]] w fun e w' => e = .returned (.int .i64 (errOf ((d == 0) && reg s && (t == 0) && plc mb mi ms md && (imm == 0)))) ∧ Below w.heap.size w w' := by
  cases h0 : (d == 0)
  · have e : errOf ((d == 0) && reg s && (t == 0) && plc mb mi ms md && (imm == 0)) = 2 := by simp [errOf, h0]
    rw [h0] at e
    exact rcheck_SM_0 op d s t mb mi ms md imm w hf h0
  cases h1 : reg s
  · have e : errOf ((d == 0) && reg s && (t == 0) && plc mb mi ms md && (imm == 0)) = 2 := by simp [errOf, h0, h1]
    simp only [h0] at e; rw [h1] at e
    exact rcheck_SM_1 op d s t mb mi ms md imm w hf h0 h1
  cases h2 : (t == 0)
  · have e : errOf ((d == 0) && reg s && (t == 0) && plc mb mi ms md && (imm == 0)) = 2 := by simp [errOf, h0, h1, h2]
    simp only [h0, h1] at e; rw [h2] at e
    exact rcheck_SM_2 op d s t mb mi ms md imm w hf h0 h1 h2
  cases h3 : plc mb mi ms md
  · have e : errOf ((d == 0) && reg s && (t == 0) && plc mb mi ms md && (imm == 0)) = 2 := by simp [errOf, h0, h1, h2, h3]
    simp only [h0, h1, h2] at e; rw [h3] at e
    exact rcheck_SM_3 op d s t mb mi ms md imm w hf h0 h1 h2 h3
  cases h4 : (imm == 0)
  · have e : errOf ((d == 0) && reg s && (t == 0) && plc mb mi ms md && (imm == 0)) = 2 := by simp [errOf, h0, h1, h2, h3, h4]
    simp only [h0, h1, h2, h3] at e; rw [h4] at e
    exact rcheck_SM_4 op d s t mb mi ms md imm w hf h0 h1 h2 h3 h4
  exact rcheck_SM_5 op d s t mb mi ms md imm w hf h0 h1 h2 h3 h4
set_option maxRecDepth 100000 in
set_option maxHeartbeats 2000000 in
theorem rcheck_Di32_0 (op d s t mb mi ms md imm : Int) (w : World) (hf : formB op = ⟨#[68, 105]⟩) (h0 : reg d = false) :
    Calls Try.prog 14 #[.agg #[.int .i64 op, .int .i64 d, .int .i64 s, .int .i64 t, .int .i64 mb, .int .i64 mi, .int .i64 ms, .int .i64 md, .int .i64 imm]] w fun e w' => e = .returned (.int .i64 2) ∧ Below w.heap.size w w' := by
  have B1 : ∀ o, Below w.heap.size w (w.alloc o) := fun o => (Below.refl _ _).alloc (Nat.le_refl _) o
  have c68 : hasC ⟨#[68, 105]⟩ 68 = true := by decide +kernel
  have c83 : hasC ⟨#[68, 105]⟩ 83 = false := by decide +kernel
  have c84 : hasC ⟨#[68, 105]⟩ 84 = false := by decide +kernel
  have c77 : hasC ⟨#[68, 105]⟩ 77 = false := by decide +kernel
  have c105 : hasC ⟨#[68, 105]⟩ 105 = true := by decide +kernel
  have c98 : hasC ⟨#[68, 105]⟩ 98 = false := by decide +kernel
  have c73 : hasC ⟨#[68, 105]⟩ 73 = false := by decide +kernel
  go_enter Try.func14, Try.ntmps14
  go_wp2_with (first | (go_at_call 16; refine (form_any _ _).mono ?_; rw [hf]; rintro e w' ⟨rfl, rfl⟩) | (go_at_call 15; refine (rhas_any _ _ _ (by decide)).mono ?_; (first | rw [c68] | rw [c83] | rw [c84] | rw [c77] | rw [c105] | rw [c98] | rw [c73]); rintro e w' ⟨rfl, rfl⟩) | (go_at_call 34; refine (rregister_any _ _).mono ?_; (first | rw [h0]); rintro e w' ⟨rfl, rfl⟩))
  go_ret
  first | exact ⟨rfl, B1 _⟩ | exact ⟨rfl, (B1 _).trans (hb1.mono (by simp))⟩
set_option maxRecDepth 100000 in
set_option maxHeartbeats 2000000 in
theorem rcheck_Di32_1 (op d s t mb mi ms md imm : Int) (w : World) (hf : formB op = ⟨#[68, 105]⟩) (h0 : reg d = true) (h1 : (s == 0) = false) :
    Calls Try.prog 14 #[.agg #[.int .i64 op, .int .i64 d, .int .i64 s, .int .i64 t, .int .i64 mb, .int .i64 mi, .int .i64 ms, .int .i64 md, .int .i64 imm]] w fun e w' => e = .returned (.int .i64 2) ∧ Below w.heap.size w w' := by
  have B1 : ∀ o, Below w.heap.size w (w.alloc o) := fun o => (Below.refl _ _).alloc (Nat.le_refl _) o
  have c68 : hasC ⟨#[68, 105]⟩ 68 = true := by decide +kernel
  have c83 : hasC ⟨#[68, 105]⟩ 83 = false := by decide +kernel
  have c84 : hasC ⟨#[68, 105]⟩ 84 = false := by decide +kernel
  have c77 : hasC ⟨#[68, 105]⟩ 77 = false := by decide +kernel
  have c105 : hasC ⟨#[68, 105]⟩ 105 = true := by decide +kernel
  have c98 : hasC ⟨#[68, 105]⟩ 98 = false := by decide +kernel
  have c73 : hasC ⟨#[68, 105]⟩ 73 = false := by decide +kernel
  go_enter Try.func14, Try.ntmps14
  go_wp2_with (first | (go_at_call 16; refine (form_any _ _).mono ?_; rw [hf]; rintro e w' ⟨rfl, rfl⟩) | (go_at_call 15; refine (rhas_any _ _ _ (by decide)).mono ?_; (first | rw [c68] | rw [c83] | rw [c84] | rw [c77] | rw [c105] | rw [c98] | rw [c73]); rintro e w' ⟨rfl, rfl⟩) | (go_at_call 34; refine (rregister_any _ _).mono ?_; (first | rw [h0]); rintro e w' ⟨rfl, rfl⟩))
  go_ret
  first | exact ⟨rfl, B1 _⟩ | exact ⟨rfl, (B1 _).trans (hb1.mono (by simp))⟩
set_option maxRecDepth 100000 in
set_option maxHeartbeats 2000000 in
theorem rcheck_Di32_2 (op d s t mb mi ms md imm : Int) (w : World) (hf : formB op = ⟨#[68, 105]⟩) (h0 : reg d = true) (h1 : (s == 0) = true) (h2 : (t == 0) = false) :
    Calls Try.prog 14 #[.agg #[.int .i64 op, .int .i64 d, .int .i64 s, .int .i64 t, .int .i64 mb, .int .i64 mi, .int .i64 ms, .int .i64 md, .int .i64 imm]] w fun e w' => e = .returned (.int .i64 2) ∧ Below w.heap.size w w' := by
  have B1 : ∀ o, Below w.heap.size w (w.alloc o) := fun o => (Below.refl _ _).alloc (Nat.le_refl _) o
  have c68 : hasC ⟨#[68, 105]⟩ 68 = true := by decide +kernel
  have c83 : hasC ⟨#[68, 105]⟩ 83 = false := by decide +kernel
  have c84 : hasC ⟨#[68, 105]⟩ 84 = false := by decide +kernel
  have c77 : hasC ⟨#[68, 105]⟩ 77 = false := by decide +kernel
  have c105 : hasC ⟨#[68, 105]⟩ 105 = true := by decide +kernel
  have c98 : hasC ⟨#[68, 105]⟩ 98 = false := by decide +kernel
  have c73 : hasC ⟨#[68, 105]⟩ 73 = false := by decide +kernel
  go_enter Try.func14, Try.ntmps14
  go_wp2_with (first | (go_at_call 16; refine (form_any _ _).mono ?_; rw [hf]; rintro e w' ⟨rfl, rfl⟩) | (go_at_call 15; refine (rhas_any _ _ _ (by decide)).mono ?_; (first | rw [c68] | rw [c83] | rw [c84] | rw [c77] | rw [c105] | rw [c98] | rw [c73]); rintro e w' ⟨rfl, rfl⟩) | (go_at_call 34; refine (rregister_any _ _).mono ?_; (first | rw [h0]); rintro e w' ⟨rfl, rfl⟩))
  go_ret
  first | exact ⟨rfl, B1 _⟩ | exact ⟨rfl, (B1 _).trans (hb1.mono (by simp))⟩
set_option maxRecDepth 100000 in
set_option maxHeartbeats 2000000 in
theorem rcheck_Di32_3 (op d s t mb mi ms md imm : Int) (w : World) (hf : formB op = ⟨#[68, 105]⟩) (h0 : reg d = true) (h1 : (s == 0) = true) (h2 : (t == 0) = true) (h3 : memZ mb mi ms md = false) :
    Calls Try.prog 14 #[.agg #[.int .i64 op, .int .i64 d, .int .i64 s, .int .i64 t, .int .i64 mb, .int .i64 mi, .int .i64 ms, .int .i64 md, .int .i64 imm]] w fun e w' => e = .returned (.int .i64 2) ∧ Below w.heap.size w w' := by
  have B1 : ∀ o, Below w.heap.size w (w.alloc o) := fun o => (Below.refl _ _).alloc (Nat.le_refl _) o
  have hne := fun w => mem_eql mb mi ms md w
  rw [h3] at hne
  have c68 : hasC ⟨#[68, 105]⟩ 68 = true := by decide +kernel
  have c83 : hasC ⟨#[68, 105]⟩ 83 = false := by decide +kernel
  have c84 : hasC ⟨#[68, 105]⟩ 84 = false := by decide +kernel
  have c77 : hasC ⟨#[68, 105]⟩ 77 = false := by decide +kernel
  have c105 : hasC ⟨#[68, 105]⟩ 105 = true := by decide +kernel
  have c98 : hasC ⟨#[68, 105]⟩ 98 = false := by decide +kernel
  have c73 : hasC ⟨#[68, 105]⟩ 73 = false := by decide +kernel
  go_enter Try.func14, Try.ntmps14
  go_wp2_with (first | (go_at_call 16; refine (form_any _ _).mono ?_; rw [hf]; rintro e w' ⟨rfl, rfl⟩) | (go_at_call 15; refine (rhas_any _ _ _ (by decide)).mono ?_; (first | rw [c68] | rw [c83] | rw [c84] | rw [c77] | rw [c105] | rw [c98] | rw [c73]); rintro e w' ⟨rfl, rfl⟩) | (go_at_call 34; refine (rregister_any _ _).mono ?_; (first | rw [h0]); rintro e w' ⟨rfl, rfl⟩))
  go_ret
  first | exact ⟨rfl, B1 _⟩ | exact ⟨rfl, (B1 _).trans (hb1.mono (by simp))⟩
set_option maxRecDepth 100000 in
set_option maxHeartbeats 2000000 in
theorem rcheck_Di32_4 (op d s t mb mi ms md imm : Int) (w : World) (hf : formB op = ⟨#[68, 105]⟩) (h0 : reg d = true) (h1 : (s == 0) = true) (h2 : (t == 0) = true) (h3 : memZ mb mi ms md = true) (h4 : smallB imm = false) :
    Calls Try.prog 14 #[.agg #[.int .i64 op, .int .i64 d, .int .i64 s, .int .i64 t, .int .i64 mb, .int .i64 mi, .int .i64 ms, .int .i64 md, .int .i64 imm]] w fun e w' => e = .returned (.int .i64 2) ∧ Below w.heap.size w w' := by
  have B1 : ∀ o, Below w.heap.size w (w.alloc o) := fun o => (Below.refl _ _).alloc (Nat.le_refl _) o
  have hne := fun w => mem_eql mb mi ms md w
  rw [h3] at hne
  have c68 : hasC ⟨#[68, 105]⟩ 68 = true := by decide +kernel
  have c83 : hasC ⟨#[68, 105]⟩ 83 = false := by decide +kernel
  have c84 : hasC ⟨#[68, 105]⟩ 84 = false := by decide +kernel
  have c77 : hasC ⟨#[68, 105]⟩ 77 = false := by decide +kernel
  have c105 : hasC ⟨#[68, 105]⟩ 105 = true := by decide +kernel
  have c98 : hasC ⟨#[68, 105]⟩ 98 = false := by decide +kernel
  have c73 : hasC ⟨#[68, 105]⟩ 73 = false := by decide +kernel
  go_enter Try.func14, Try.ntmps14
  go_wp2_with (first | (go_at_call 16; refine (form_any _ _).mono ?_; rw [hf]; rintro e w' ⟨rfl, rfl⟩) | (go_at_call 15; refine (rhas_any _ _ _ (by decide)).mono ?_; (first | rw [c68] | rw [c83] | rw [c84] | rw [c77] | rw [c105] | rw [c98] | rw [c73]); rintro e w' ⟨rfl, rfl⟩) | (go_at_call 34; refine (rregister_any _ _).mono ?_; (first | rw [h0]); rintro e w' ⟨rfl, rfl⟩) | (go_at_call 36; refine (rsmall_any _ _).mono ?_; rw [h4]; rintro e w' ⟨rfl, rfl⟩))
  go_ret
  first | exact ⟨rfl, B1 _⟩ | exact ⟨rfl, (B1 _).trans (hb1.mono (by simp))⟩
set_option maxRecDepth 100000 in
set_option maxHeartbeats 2000000 in
theorem rcheck_Di32_5 (op d s t mb mi ms md imm : Int) (w : World) (hf : formB op = ⟨#[68, 105]⟩) (h0 : reg d = true) (h1 : (s == 0) = true) (h2 : (t == 0) = true) (h3 : memZ mb mi ms md = true) (h4 : smallB imm = true) :
    Calls Try.prog 14 #[.agg #[.int .i64 op, .int .i64 d, .int .i64 s, .int .i64 t, .int .i64 mb, .int .i64 mi, .int .i64 ms, .int .i64 md, .int .i64 imm]] w fun e w' => e = .returned (.int .i64 0) ∧ Below w.heap.size w w' := by
  have B1 : ∀ o, Below w.heap.size w (w.alloc o) := fun o => (Below.refl _ _).alloc (Nat.le_refl _) o
  have hne := fun w => mem_eql mb mi ms md w
  rw [h3] at hne
  have c68 : hasC ⟨#[68, 105]⟩ 68 = true := by decide +kernel
  have c83 : hasC ⟨#[68, 105]⟩ 83 = false := by decide +kernel
  have c84 : hasC ⟨#[68, 105]⟩ 84 = false := by decide +kernel
  have c77 : hasC ⟨#[68, 105]⟩ 77 = false := by decide +kernel
  have c105 : hasC ⟨#[68, 105]⟩ 105 = true := by decide +kernel
  have c98 : hasC ⟨#[68, 105]⟩ 98 = false := by decide +kernel
  have c73 : hasC ⟨#[68, 105]⟩ 73 = false := by decide +kernel
  go_enter Try.func14, Try.ntmps14
  go_wp2_with (first | (go_at_call 16; refine (form_any _ _).mono ?_; rw [hf]; rintro e w' ⟨rfl, rfl⟩) | (go_at_call 15; refine (rhas_any _ _ _ (by decide)).mono ?_; (first | rw [c68] | rw [c83] | rw [c84] | rw [c77] | rw [c105] | rw [c98] | rw [c73]); rintro e w' ⟨rfl, rfl⟩) | (go_at_call 34; refine (rregister_any _ _).mono ?_; (first | rw [h0]); rintro e w' ⟨rfl, rfl⟩) | (go_at_call 36; refine (rsmall_any _ _).mono ?_; rw [h4]; rintro e w' ⟨rfl, rfl⟩))
  go_ret
  first | exact ⟨rfl, B1 _⟩ | exact ⟨rfl, (B1 _).trans (hb1.mono (by simp))⟩
theorem rcheck_Di32 (op d s t mb mi ms md imm : Int) (w : World) (hf : formB op = ⟨#[68, 105]⟩) :
    Calls Try.prog 14 #[.agg #[.int .i64 op, .int .i64 d, .int .i64 s, .int .i64 t, .int .i64 mb, .int .i64 mi, .int .i64 ms, .int .i64 md, .int .i64 imm]] w fun e w' => e = .returned (.int .i64 (errOf (reg d && (s == 0) && (t == 0) && memZ mb mi ms md && smallB imm))) ∧ Below w.heap.size w w' := by
  cases h0 : reg d
  · have e : errOf (reg d && (s == 0) && (t == 0) && memZ mb mi ms md && smallB imm) = 2 := by simp [errOf, h0]
    rw [h0] at e
    exact rcheck_Di32_0 op d s t mb mi ms md imm w hf h0
  cases h1 : (s == 0)
  · have e : errOf (reg d && (s == 0) && (t == 0) && memZ mb mi ms md && smallB imm) = 2 := by simp [errOf, h0, h1]
    simp only [h0] at e; rw [h1] at e
    exact rcheck_Di32_1 op d s t mb mi ms md imm w hf h0 h1
  cases h2 : (t == 0)
  · have e : errOf (reg d && (s == 0) && (t == 0) && memZ mb mi ms md && smallB imm) = 2 := by simp [errOf, h0, h1, h2]
    simp only [h0, h1] at e; rw [h2] at e
    exact rcheck_Di32_2 op d s t mb mi ms md imm w hf h0 h1 h2
  cases h3 : memZ mb mi ms md
  · have e : errOf (reg d && (s == 0) && (t == 0) && memZ mb mi ms md && smallB imm) = 2 := by simp [errOf, h0, h1, h2, h3]
    simp only [h0, h1, h2] at e; rw [h3] at e
    exact rcheck_Di32_3 op d s t mb mi ms md imm w hf h0 h1 h2 h3
  cases h4 : smallB imm
  · have e : errOf (reg d && (s == 0) && (t == 0) && memZ mb mi ms md && smallB imm) = 2 := by simp [errOf, h0, h1, h2, h3, h4]
    simp only [h0, h1, h2, h3] at e; rw [h4] at e
    exact rcheck_Di32_4 op d s t mb mi ms md imm w hf h0 h1 h2 h3 h4
  exact rcheck_Di32_5 op d s t mb mi ms md imm w hf h0 h1 h2 h3 h4
set_option maxRecDepth 100000 in
set_option maxHeartbeats 2000000 in
theorem rcheck_DST_0 (op d s t mb mi ms md imm : Int) (w : World) (hf : formB op = ⟨#[68, 83, 84]⟩) (h0 : reg d = false) :
    Calls Try.prog 14 #[.agg #[.int .i64 op, .int .i64 d, .int .i64 s, .int .i64 t, .int .i64 mb, .int .i64 mi, .int .i64 ms, .int .i64 md, .int .i64 imm]] w fun e w' => e = .returned (.int .i64 2) ∧ Below w.heap.size w w' := by
  have B1 : ∀ o, Below w.heap.size w (w.alloc o) := fun o => (Below.refl _ _).alloc (Nat.le_refl _) o
  have c68 : hasC ⟨#[68, 83, 84]⟩ 68 = true := by decide +kernel
  have c83 : hasC ⟨#[68, 83, 84]⟩ 83 = true := by decide +kernel
  have c84 : hasC ⟨#[68, 83, 84]⟩ 84 = true := by decide +kernel
  have c77 : hasC ⟨#[68, 83, 84]⟩ 77 = false := by decide +kernel
  have c105 : hasC ⟨#[68, 83, 84]⟩ 105 = false := by decide +kernel
  have c98 : hasC ⟨#[68, 83, 84]⟩ 98 = false := by decide +kernel
  have c73 : hasC ⟨#[68, 83, 84]⟩ 73 = false := by decide +kernel
  go_enter Try.func14, Try.ntmps14
  go_wp2_with (first | (go_at_call 16; refine (form_any _ _).mono ?_; rw [hf]; rintro e w' ⟨rfl, rfl⟩) | (go_at_call 15; refine (rhas_any _ _ _ (by decide)).mono ?_; (first | rw [c68] | rw [c83] | rw [c84] | rw [c77] | rw [c105] | rw [c98] | rw [c73]); rintro e w' ⟨rfl, rfl⟩) | (go_at_call 34; refine (rregister_any _ _).mono ?_; (first | rw [h0]); rintro e w' ⟨rfl, rfl⟩))
  go_ret
  first | exact ⟨rfl, B1 _⟩ | exact ⟨rfl, (B1 _).trans (hb1.mono (by simp))⟩
set_option maxRecDepth 100000 in
set_option maxHeartbeats 2000000 in
theorem rcheck_DST_1 (op d s t mb mi ms md imm : Int) (w : World) (hf : formB op = ⟨#[68, 83, 84]⟩) (h0 : reg d = true) (h1 : reg s = false) :
    Calls Try.prog 14 #[.agg #[.int .i64 op, .int .i64 d, .int .i64 s, .int .i64 t, .int .i64 mb, .int .i64 mi, .int .i64 ms, .int .i64 md, .int .i64 imm]] w fun e w' => e = .returned (.int .i64 2) ∧ Below w.heap.size w w' := by
  have B1 : ∀ o, Below w.heap.size w (w.alloc o) := fun o => (Below.refl _ _).alloc (Nat.le_refl _) o
  have c68 : hasC ⟨#[68, 83, 84]⟩ 68 = true := by decide +kernel
  have c83 : hasC ⟨#[68, 83, 84]⟩ 83 = true := by decide +kernel
  have c84 : hasC ⟨#[68, 83, 84]⟩ 84 = true := by decide +kernel
  have c77 : hasC ⟨#[68, 83, 84]⟩ 77 = false := by decide +kernel
  have c105 : hasC ⟨#[68, 83, 84]⟩ 105 = false := by decide +kernel
  have c98 : hasC ⟨#[68, 83, 84]⟩ 98 = false := by decide +kernel
  have c73 : hasC ⟨#[68, 83, 84]⟩ 73 = false := by decide +kernel
  go_enter Try.func14, Try.ntmps14
  go_wp2_with (first | (go_at_call 16; refine (form_any _ _).mono ?_; rw [hf]; rintro e w' ⟨rfl, rfl⟩) | (go_at_call 15; refine (rhas_any _ _ _ (by decide)).mono ?_; (first | rw [c68] | rw [c83] | rw [c84] | rw [c77] | rw [c105] | rw [c98] | rw [c73]); rintro e w' ⟨rfl, rfl⟩) | (go_at_call 34; refine (rregister_any _ _).mono ?_; (first | rw [h0] | rw [h1]); rintro e w' ⟨rfl, rfl⟩))
  go_ret
  first | exact ⟨rfl, B1 _⟩ | exact ⟨rfl, (B1 _).trans (hb1.mono (by simp))⟩
set_option maxRecDepth 100000 in
set_option maxHeartbeats 2000000 in
theorem rcheck_DST_2 (op d s t mb mi ms md imm : Int) (w : World) (hf : formB op = ⟨#[68, 83, 84]⟩) (h0 : reg d = true) (h1 : reg s = true) (h2 : reg t = false) :
    Calls Try.prog 14 #[.agg #[.int .i64 op, .int .i64 d, .int .i64 s, .int .i64 t, .int .i64 mb, .int .i64 mi, .int .i64 ms, .int .i64 md, .int .i64 imm]] w fun e w' => e = .returned (.int .i64 2) ∧ Below w.heap.size w w' := by
  have B1 : ∀ o, Below w.heap.size w (w.alloc o) := fun o => (Below.refl _ _).alloc (Nat.le_refl _) o
  have c68 : hasC ⟨#[68, 83, 84]⟩ 68 = true := by decide +kernel
  have c83 : hasC ⟨#[68, 83, 84]⟩ 83 = true := by decide +kernel
  have c84 : hasC ⟨#[68, 83, 84]⟩ 84 = true := by decide +kernel
  have c77 : hasC ⟨#[68, 83, 84]⟩ 77 = false := by decide +kernel
  have c105 : hasC ⟨#[68, 83, 84]⟩ 105 = false := by decide +kernel
  have c98 : hasC ⟨#[68, 83, 84]⟩ 98 = false := by decide +kernel
  have c73 : hasC ⟨#[68, 83, 84]⟩ 73 = false := by decide +kernel
  go_enter Try.func14, Try.ntmps14
  go_wp2_with (first | (go_at_call 16; refine (form_any _ _).mono ?_; rw [hf]; rintro e w' ⟨rfl, rfl⟩) | (go_at_call 15; refine (rhas_any _ _ _ (by decide)).mono ?_; (first | rw [c68] | rw [c83] | rw [c84] | rw [c77] | rw [c105] | rw [c98] | rw [c73]); rintro e w' ⟨rfl, rfl⟩) | (go_at_call 34; refine (rregister_any _ _).mono ?_; (first | rw [h0] | rw [h1] | rw [h2]); rintro e w' ⟨rfl, rfl⟩))
  go_ret
  first | exact ⟨rfl, B1 _⟩ | exact ⟨rfl, (B1 _).trans (hb1.mono (by simp))⟩
set_option maxRecDepth 100000 in
set_option maxHeartbeats 2000000 in
theorem rcheck_DST_3 (op d s t mb mi ms md imm : Int) (w : World) (hf : formB op = ⟨#[68, 83, 84]⟩) (h0 : reg d = true) (h1 : reg s = true) (h2 : reg t = true) (h3 : (d != s) = false) :
    Calls Try.prog 14 #[.agg #[.int .i64 op, .int .i64 d, .int .i64 s, .int .i64 t, .int .i64 mb, .int .i64 mi, .int .i64 ms, .int .i64 md, .int .i64 imm]] w fun e w' => e = .returned (.int .i64 2) ∧ Below w.heap.size w w' := by
  have B1 : ∀ o, Below w.heap.size w (w.alloc o) := fun o => (Below.refl _ _).alloc (Nat.le_refl _) o
  have c68 : hasC ⟨#[68, 83, 84]⟩ 68 = true := by decide +kernel
  have c83 : hasC ⟨#[68, 83, 84]⟩ 83 = true := by decide +kernel
  have c84 : hasC ⟨#[68, 83, 84]⟩ 84 = true := by decide +kernel
  have c77 : hasC ⟨#[68, 83, 84]⟩ 77 = false := by decide +kernel
  have c105 : hasC ⟨#[68, 83, 84]⟩ 105 = false := by decide +kernel
  have c98 : hasC ⟨#[68, 83, 84]⟩ 98 = false := by decide +kernel
  have c73 : hasC ⟨#[68, 83, 84]⟩ 73 = false := by decide +kernel
  go_enter Try.func14, Try.ntmps14
  go_wp2_with (first | (go_at_call 16; refine (form_any _ _).mono ?_; rw [hf]; rintro e w' ⟨rfl, rfl⟩) | (go_at_call 15; refine (rhas_any _ _ _ (by decide)).mono ?_; (first | rw [c68] | rw [c83] | rw [c84] | rw [c77] | rw [c105] | rw [c98] | rw [c73]); rintro e w' ⟨rfl, rfl⟩) | (go_at_call 34; refine (rregister_any _ _).mono ?_; (first | rw [h0] | rw [h1] | rw [h2]); rintro e w' ⟨rfl, rfl⟩))
  go_ret
  first | exact ⟨rfl, B1 _⟩ | exact ⟨rfl, (B1 _).trans (hb1.mono (by simp))⟩
set_option maxRecDepth 100000 in
set_option maxHeartbeats 2000000 in
theorem rcheck_DST_4 (op d s t mb mi ms md imm : Int) (w : World) (hf : formB op = ⟨#[68, 83, 84]⟩) (h0 : reg d = true) (h1 : reg s = true) (h2 : reg t = true) (h3 : (d != s) = true) (h4 : memZ mb mi ms md = false) :
    Calls Try.prog 14 #[.agg #[.int .i64 op, .int .i64 d, .int .i64 s, .int .i64 t, .int .i64 mb, .int .i64 mi, .int .i64 ms, .int .i64 md, .int .i64 imm]] w fun e w' => e = .returned (.int .i64 2) ∧ Below w.heap.size w w' := by
  have B1 : ∀ o, Below w.heap.size w (w.alloc o) := fun o => (Below.refl _ _).alloc (Nat.le_refl _) o
  have hne := fun w => mem_eql mb mi ms md w
  rw [h4] at hne
  have c68 : hasC ⟨#[68, 83, 84]⟩ 68 = true := by decide +kernel
  have c83 : hasC ⟨#[68, 83, 84]⟩ 83 = true := by decide +kernel
  have c84 : hasC ⟨#[68, 83, 84]⟩ 84 = true := by decide +kernel
  have c77 : hasC ⟨#[68, 83, 84]⟩ 77 = false := by decide +kernel
  have c105 : hasC ⟨#[68, 83, 84]⟩ 105 = false := by decide +kernel
  have c98 : hasC ⟨#[68, 83, 84]⟩ 98 = false := by decide +kernel
  have c73 : hasC ⟨#[68, 83, 84]⟩ 73 = false := by decide +kernel
  go_enter Try.func14, Try.ntmps14
  go_wp2_with (first | (go_at_call 16; refine (form_any _ _).mono ?_; rw [hf]; rintro e w' ⟨rfl, rfl⟩) | (go_at_call 15; refine (rhas_any _ _ _ (by decide)).mono ?_; (first | rw [c68] | rw [c83] | rw [c84] | rw [c77] | rw [c105] | rw [c98] | rw [c73]); rintro e w' ⟨rfl, rfl⟩) | (go_at_call 34; refine (rregister_any _ _).mono ?_; (first | rw [h0] | rw [h1] | rw [h2]); rintro e w' ⟨rfl, rfl⟩))
  go_ret
  first | exact ⟨rfl, B1 _⟩ | exact ⟨rfl, (B1 _).trans (hb1.mono (by simp))⟩
set_option maxRecDepth 100000 in
set_option maxHeartbeats 2000000 in
theorem rcheck_DST_5 (op d s t mb mi ms md imm : Int) (w : World) (hf : formB op = ⟨#[68, 83, 84]⟩) (h0 : reg d = true) (h1 : reg s = true) (h2 : reg t = true) (h3 : (d != s) = true) (h4 : memZ mb mi ms md = true) (h5 : (imm == 0) = false) :
    Calls Try.prog 14 #[.agg #[.int .i64 op, .int .i64 d, .int .i64 s, .int .i64 t, .int .i64 mb, .int .i64 mi, .int .i64 ms, .int .i64 md, .int .i64 imm]] w fun e w' => e = .returned (.int .i64 2) ∧ Below w.heap.size w w' := by
  have B1 : ∀ o, Below w.heap.size w (w.alloc o) := fun o => (Below.refl _ _).alloc (Nat.le_refl _) o
  have hne := fun w => mem_eql mb mi ms md w
  rw [h4] at hne
  have c68 : hasC ⟨#[68, 83, 84]⟩ 68 = true := by decide +kernel
  have c83 : hasC ⟨#[68, 83, 84]⟩ 83 = true := by decide +kernel
  have c84 : hasC ⟨#[68, 83, 84]⟩ 84 = true := by decide +kernel
  have c77 : hasC ⟨#[68, 83, 84]⟩ 77 = false := by decide +kernel
  have c105 : hasC ⟨#[68, 83, 84]⟩ 105 = false := by decide +kernel
  have c98 : hasC ⟨#[68, 83, 84]⟩ 98 = false := by decide +kernel
  have c73 : hasC ⟨#[68, 83, 84]⟩ 73 = false := by decide +kernel
  go_enter Try.func14, Try.ntmps14
  go_wp2_with (first | (go_at_call 16; refine (form_any _ _).mono ?_; rw [hf]; rintro e w' ⟨rfl, rfl⟩) | (go_at_call 15; refine (rhas_any _ _ _ (by decide)).mono ?_; (first | rw [c68] | rw [c83] | rw [c84] | rw [c77] | rw [c105] | rw [c98] | rw [c73]); rintro e w' ⟨rfl, rfl⟩) | (go_at_call 34; refine (rregister_any _ _).mono ?_; (first | rw [h0] | rw [h1] | rw [h2]); rintro e w' ⟨rfl, rfl⟩))
  go_ret
  first | exact ⟨rfl, B1 _⟩ | exact ⟨rfl, (B1 _).trans (hb1.mono (by simp))⟩
set_option maxRecDepth 100000 in
set_option maxHeartbeats 2000000 in
theorem rcheck_DST_6 (op d s t mb mi ms md imm : Int) (w : World) (hf : formB op = ⟨#[68, 83, 84]⟩) (h0 : reg d = true) (h1 : reg s = true) (h2 : reg t = true) (h3 : (d != s) = true) (h4 : memZ mb mi ms md = true) (h5 : (imm == 0) = true) :
    Calls Try.prog 14 #[.agg #[.int .i64 op, .int .i64 d, .int .i64 s, .int .i64 t, .int .i64 mb, .int .i64 mi, .int .i64 ms, .int .i64 md, .int .i64 imm]] w fun e w' => e = .returned (.int .i64 0) ∧ Below w.heap.size w w' := by
  have B1 : ∀ o, Below w.heap.size w (w.alloc o) := fun o => (Below.refl _ _).alloc (Nat.le_refl _) o
  have hne := fun w => mem_eql mb mi ms md w
  rw [h4] at hne
  have c68 : hasC ⟨#[68, 83, 84]⟩ 68 = true := by decide +kernel
  have c83 : hasC ⟨#[68, 83, 84]⟩ 83 = true := by decide +kernel
  have c84 : hasC ⟨#[68, 83, 84]⟩ 84 = true := by decide +kernel
  have c77 : hasC ⟨#[68, 83, 84]⟩ 77 = false := by decide +kernel
  have c105 : hasC ⟨#[68, 83, 84]⟩ 105 = false := by decide +kernel
  have c98 : hasC ⟨#[68, 83, 84]⟩ 98 = false := by decide +kernel
  have c73 : hasC ⟨#[68, 83, 84]⟩ 73 = false := by decide +kernel
  go_enter Try.func14, Try.ntmps14
  go_wp2_with (first | (go_at_call 16; refine (form_any _ _).mono ?_; rw [hf]; rintro e w' ⟨rfl, rfl⟩) | (go_at_call 15; refine (rhas_any _ _ _ (by decide)).mono ?_; (first | rw [c68] | rw [c83] | rw [c84] | rw [c77] | rw [c105] | rw [c98] | rw [c73]); rintro e w' ⟨rfl, rfl⟩) | (go_at_call 34; refine (rregister_any _ _).mono ?_; (first | rw [h0] | rw [h1] | rw [h2]); rintro e w' ⟨rfl, rfl⟩))
  go_ret
  first | exact ⟨rfl, B1 _⟩ | exact ⟨rfl, (B1 _).trans (hb1.mono (by simp))⟩
theorem rcheck_DST (op d s t mb mi ms md imm : Int) (w : World) (hf : formB op = ⟨#[68, 83, 84]⟩) :
    Calls Try.prog 14 #[.agg #[.int .i64 op, .int .i64 d, .int .i64 s, .int .i64 t, .int .i64 mb, .int .i64 mi, .int .i64 ms, .int .i64 md, .int .i64 imm]] w fun e w' => e = .returned (.int .i64 (errOf (reg d && reg s && reg t && (d != s) && memZ mb mi ms md && (imm == 0)))) ∧ Below w.heap.size w w' := by
  cases h0 : reg d
  · have e : errOf (reg d && reg s && reg t && (d != s) && memZ mb mi ms md && (imm == 0)) = 2 := by simp [errOf, h0]
    rw [h0] at e
    exact rcheck_DST_0 op d s t mb mi ms md imm w hf h0
  cases h1 : reg s
  · have e : errOf (reg d && reg s && reg t && (d != s) && memZ mb mi ms md && (imm == 0)) = 2 := by simp [errOf, h0, h1]
    simp only [h0] at e; rw [h1] at e
    exact rcheck_DST_1 op d s t mb mi ms md imm w hf h0 h1
  cases h2 : reg t
  · have e : errOf (reg d && reg s && reg t && (d != s) && memZ mb mi ms md && (imm == 0)) = 2 := by simp [errOf, h0, h1, h2]
    simp only [h0, h1] at e; rw [h2] at e
    exact rcheck_DST_2 op d s t mb mi ms md imm w hf h0 h1 h2
  cases h3 : (d != s)
  · have e : errOf (reg d && reg s && reg t && (d != s) && memZ mb mi ms md && (imm == 0)) = 2 := by simp [errOf, h0, h1, h2, h3]
    simp only [h0, h1, h2] at e; rw [h3] at e
    exact rcheck_DST_3 op d s t mb mi ms md imm w hf h0 h1 h2 h3
  cases h4 : memZ mb mi ms md
  · have e : errOf (reg d && reg s && reg t && (d != s) && memZ mb mi ms md && (imm == 0)) = 2 := by simp [errOf, h0, h1, h2, h3, h4]
    simp only [h0, h1, h2, h3] at e; rw [h4] at e
    exact rcheck_DST_4 op d s t mb mi ms md imm w hf h0 h1 h2 h3 h4
  cases h5 : (imm == 0)
  · have e : errOf (reg d && reg s && reg t && (d != s) && memZ mb mi ms md && (imm == 0)) = 2 := by simp [errOf, h0, h1, h2, h3, h4, h5]
    simp only [h0, h1, h2, h3, h4] at e; rw [h5] at e
    exact rcheck_DST_5 op d s t mb mi ms md imm w hf h0 h1 h2 h3 h4 h5
  exact rcheck_DST_6 op d s t mb mi ms md imm w hf h0 h1 h2 h3 h4 h5
end Go.Proofs.Ytakmpnmmcjnecaa
