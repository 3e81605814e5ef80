/- keysmithref05 (the document's answer for layer 5): Check, its cases A. Conditions: none. -/
import Derived.Test.YtakmpnmmcjnecaaRefP
namespace Go.Proofs.Ytakmpnmmcjnecaa
open Go.RowKit Calm

set_option maxRecDepth 100000 in
set_option maxHeartbeats 2000000 in
theorem rcheck_DS_0 (op d s t mb mi ms md imm : Int) (w : World) (hf : formB op = ⟨#[68, 83]⟩) (h0 : reg d = false) :
    Calls Try.prog 14 #[.agg #[.int .i64 op, .int .i64 d, .int .i64 s, .int .i64 t, .int .i64 mb, .int .i64 mi, .int .i64 ms, .int .i64 md, .int .i64 imm]] w fun e w' => e = .returned (.int .i64 2) ∧ Below w.heap.size w w' := by
  have B1 : ∀ o, Below w.heap.size w (w.alloc o) := fun o => (Below.refl _ _).alloc (Nat.le_refl _) o
  have c68 : hasC ⟨#[68, 83]⟩ 68 = true := by decide +kernel
  have c83 : hasC ⟨#[68, 83]⟩ 83 = true := by decide +kernel
  have c84 : hasC ⟨#[68, 83]⟩ 84 = false := by decide +kernel
  have c77 : hasC ⟨#[68, 83]⟩ 77 = false := by decide +kernel
  have c105 : hasC ⟨#[68, 83]⟩ 105 = false := by decide +kernel
  have c98 : hasC ⟨#[68, 83]⟩ 98 = false := by decide +kernel
  have c73 : hasC ⟨#[68, 83]⟩ 73 = false := by decide +kernel
  go_enter Try.func14, Try.ntmps14
  go_wp2_with (first | (go_at_call 16; refine (form_any _ _).mono ?_; rw [hf]; rintro e w' ⟨rfl, rfl⟩) | (go_at_call 15; refine (rhas_any _ _ _ (by decide)).mono ?_; (first | rw [c68] | rw [c83] | rw [c84] | rw [c77] | rw [c105] | rw [c98] | rw [c73]); rintro e w' ⟨rfl, rfl⟩) | (go_at_call 34; refine (rregister_any _ _).mono ?_; (first | rw [h0]); rintro e w' ⟨rfl, rfl⟩))
  go_ret
  first | exact ⟨rfl, B1 _⟩ | exact ⟨rfl, (B1 _).trans (hb1.mono (by simp))⟩
set_option maxRecDepth 100000 in
set_option maxHeartbeats 2000000 in
theorem rcheck_DS_1 (op d s t mb mi ms md imm : Int) (w : World) (hf : formB op = ⟨#[68, 83]⟩) (h0 : reg d = true) (h1 : reg s = false) :
    Calls Try.prog 14 #[.agg #[.int .i64 op, .int .i64 d, .int .i64 s, .int .i64 t, .int .i64 mb, .int .i64 mi, .int .i64 ms, .int .i64 md, .int .i64 imm]] w fun e w' => e = .returned (.int .i64 2) ∧ Below w.heap.size w w' := by
  have B1 : ∀ o, Below w.heap.size w (w.alloc o) := fun o => (Below.refl _ _).alloc (Nat.le_refl _) o
  have c68 : hasC ⟨#[68, 83]⟩ 68 = true := by decide +kernel
  have c83 : hasC ⟨#[68, 83]⟩ 83 = true := by decide +kernel
  have c84 : hasC ⟨#[68, 83]⟩ 84 = false := by decide +kernel
  have c77 : hasC ⟨#[68, 83]⟩ 77 = false := by decide +kernel
  have c105 : hasC ⟨#[68, 83]⟩ 105 = false := by decide +kernel
  have c98 : hasC ⟨#[68, 83]⟩ 98 = false := by decide +kernel
  have c73 : hasC ⟨#[68, 83]⟩ 73 = false := by decide +kernel
  go_enter Try.func14, Try.ntmps14
  go_wp2_with (first | (go_at_call 16; refine (form_any _ _).mono ?_; rw [hf]; rintro e w' ⟨rfl, rfl⟩) | (go_at_call 15; refine (rhas_any _ _ _ (by decide)).mono ?_; (first | rw [c68] | rw [c83] | rw [c84] | rw [c77] | rw [c105] | rw [c98] | rw [c73]); rintro e w' ⟨rfl, rfl⟩) | (go_at_call 34; refine (rregister_any _ _).mono ?_; (first | rw [h0] | rw [h1]); rintro e w' ⟨rfl, rfl⟩))
  go_ret
  first | exact ⟨rfl, B1 _⟩ | exact ⟨rfl, (B1 _).trans (hb1.mono (by simp))⟩
set_option maxRecDepth 100000 in
set_option maxHeartbeats 2000000 in
theorem rcheck_DS_2 (op d s t mb mi ms md imm : Int) (w : World) (hf : formB op = ⟨#[68, 83]⟩) (h0 : reg d = true) (h1 : reg s = true) (h2 : (t == 0) = false) :
    Calls Try.prog 14 #[.agg #[.int .i64 op, .int .i64 d, .int .i64 s, .int .i64 t, .int .i64 mb, .int .i64 mi, .int .i64 ms, .int .i64 md, .int .i64 imm]] w fun e w' => e = .returned (.int .i64 2) ∧ Below w.heap.size w w' := by
  have B1 : ∀ o, Below w.heap.size w (w.alloc o) := fun o => (Below.refl _ _).alloc (Nat.le_refl _) o
  have c68 : hasC ⟨#[68, 83]⟩ 68 = true := by decide +kernel
  have c83 : hasC ⟨#[68, 83]⟩ 83 = true := by decide +kernel
  have c84 : hasC ⟨#[68, 83]⟩ 84 = false := by decide +kernel
  have c77 : hasC ⟨#[68, 83]⟩ 77 = false := by decide +kernel
  have c105 : hasC ⟨#[68, 83]⟩ 105 = false := by decide +kernel
  have c98 : hasC ⟨#[68, 83]⟩ 98 = false := by decide +kernel
  have c73 : hasC ⟨#[68, 83]⟩ 73 = false := by decide +kernel
  go_enter Try.func14, Try.ntmps14
  go_wp2_with (first | (go_at_call 16; refine (form_any _ _).mono ?_; rw [hf]; rintro e w' ⟨rfl, rfl⟩) | (go_at_call 15; refine (rhas_any _ _ _ (by decide)).mono ?_; (first | rw [c68] | rw [c83] | rw [c84] | rw [c77] | rw [c105] | rw [c98] | rw [c73]); rintro e w' ⟨rfl, rfl⟩) | (go_at_call 34; refine (rregister_any _ _).mono ?_; (first | rw [h0] | rw [h1]); rintro e w' ⟨rfl, rfl⟩))
  go_ret
  first | exact ⟨rfl, B1 _⟩ | exact ⟨rfl, (B1 _).trans (hb1.mono (by simp))⟩
set_option maxRecDepth 100000 in
set_option maxHeartbeats 2000000 in
theorem rcheck_DS_3 (op d s t mb mi ms md imm : Int) (w : World) (hf : formB op = ⟨#[68, 83]⟩) (h0 : reg d = true) (h1 : reg s = true) (h2 : (t == 0) = true) (h3 : memZ mb mi ms md = false) :
    Calls Try.prog 14 #[.agg #[.int .i64 op, .int .i64 d, .int .i64 s, .int .i64 t, .int .i64 mb, .int .i64 mi, .int .i64 ms, .int .i64 md, .int .i64 imm]] w fun e w' => e = .returned (.int .i64 2) ∧ Below w.heap.size w w' := by
  have B1 : ∀ o, Below w.heap.size w (w.alloc o) := fun o => (Below.refl _ _).alloc (Nat.le_refl _) o
  have hne := fun w => mem_eql mb mi ms md w
  rw [h3] at hne
  have c68 : hasC ⟨#[68, 83]⟩ 68 = true := by decide +kernel
  have c83 : hasC ⟨#[68, 83]⟩ 83 = true := by decide +kernel
  have c84 : hasC ⟨#[68, 83]⟩ 84 = false := by decide +kernel
  have c77 : hasC ⟨#[68, 83]⟩ 77 = false := by decide +kernel
  have c105 : hasC ⟨#[68, 83]⟩ 105 = false := by decide +kernel
  have c98 : hasC ⟨#[68, 83]⟩ 98 = false := by decide +kernel
  have c73 : hasC ⟨#[68, 83]⟩ 73 = false := by decide +kernel
  go_enter Try.func14, Try.ntmps14
  go_wp2_with (first | (go_at_call 16; refine (form_any _ _).mono ?_; rw [hf]; rintro e w' ⟨rfl, rfl⟩) | (go_at_call 15; refine (rhas_any _ _ _ (by decide)).mono ?_; (first | rw [c68] | rw [c83] | rw [c84] | rw [c77] | rw [c105] | rw [c98] | rw [c73]); rintro e w' ⟨rfl, rfl⟩) | (go_at_call 34; refine (rregister_any _ _).mono ?_; (first | rw [h0] | rw [h1]); rintro e w' ⟨rfl, rfl⟩))
  go_ret
  first | exact ⟨rfl, B1 _⟩ | exact ⟨rfl, (B1 _).trans (hb1.mono (by simp))⟩
set_option maxRecDepth 100000 in
set_option maxHeartbeats 2000000 in
theorem rcheck_DS_4 (op d s t mb mi ms md imm : Int) (w : World) (hf : formB op = ⟨#[68, 83]⟩) (h0 : reg d = true) (h1 : reg s = true) (h2 : (t == 0) = true) (h3 : memZ mb mi ms md = true) (h4 : (imm == 0) = false) :
    Calls Try.prog 14 #[.agg #[.int .i64 op, .int .i64 d, .int .i64 s, .int .i64 t, .int .i64 mb, .int .i64 mi, .int .i64 ms, .int .i64 md, .int .i64 imm]] w fun e w' => e = .returned (.int .i64 2) ∧ Below w.heap.size w w' := by
  have B1 : ∀ o, Below w.heap.size w (w.alloc o) := fun o => (Below.refl _ _).alloc (Nat.le_refl _) o
  have hne := fun w => mem_eql mb mi ms md w
  rw [h3] at hne
  have c68 : hasC ⟨#[68, 83]⟩ 68 = true := by decide +kernel
  have c83 : hasC ⟨#[68, 83]⟩ 83 = true := by decide +kernel
  have c84 : hasC ⟨#[68, 83]⟩ 84 = false := by decide +kernel
  have c77 : hasC ⟨#[68, 83]⟩ 77 = false := by decide +kernel
  have c105 : hasC ⟨#[68, 83]⟩ 105 = false := by decide +kernel
  have c98 : hasC ⟨#[68, 83]⟩ 98 = false := by decide +kernel
  have c73 : hasC ⟨#[68, 83]⟩ 73 = false := by decide +kernel
  go_enter Try.func14, Try.ntmps14
  go_wp2_with (first | (go_at_call 16; refine (form_any _ _).mono ?_; rw [hf]; rintro e w' ⟨rfl, rfl⟩) | (go_at_call 15; refine (rhas_any _ _ _ (by decide)).mono ?_; (first | rw [c68] | rw [c83] | rw [c84] | rw [c77] | rw [c105] | rw [c98] | rw [c73]); rintro e w' ⟨rfl, rfl⟩) | (go_at_call 34; refine (rregister_any _ _).mono ?_; (first | rw [h0] | rw [h1]); rintro e w' ⟨rfl, rfl⟩))
  go_ret
  first | exact ⟨rfl, B1 _⟩ | exact ⟨rfl, (B1 _).trans (hb1.mono (by simp))⟩
set_option maxRecDepth 100000 in
set_option maxHeartbeats 2000000 in
theorem rcheck_DS_5 (op d s t mb mi ms md imm : Int) (w : World) (hf : formB op = ⟨#[68, 83]⟩) (h0 : reg d = true) (h1 : reg s = true) (h2 : (t == 0) = true) (h3 : memZ mb mi ms md = true) (h4 : (imm == 0) = true) :
    Calls Try.prog 14 #[.agg #[.int .i64 op, .int .i64 d, .int .i64 s, .int .i64 t, .int .i64 mb, .int .i64 mi, .int .i64 ms, .int .i64 md, .int .i64 imm]] w fun e w' => e = .returned (.int .i64 0) ∧ Below w.heap.size w w' := by
  have B1 : ∀ o, Below w.heap.size w (w.alloc o) := fun o => (Below.refl _ _).alloc (Nat.le_refl _) o
  have hne := fun w => mem_eql mb mi ms md w
  rw [h3] at hne
  have c68 : hasC ⟨#[68, 83]⟩ 68 = true := by decide +kernel
  have c83 : hasC ⟨#[68, 83]⟩ 83 = true := by decide +kernel
  have c84 : hasC ⟨#[68, 83]⟩ 84 = false := by decide +kernel
  have c77 : hasC ⟨#[68, 83]⟩ 77 = false := by decide +kernel
  have c105 : hasC ⟨#[68, 83]⟩ 105 = false := by decide +kernel
  have c98 : hasC ⟨#[68, 83]⟩ 98 = false := by decide +kernel
  have c73 : hasC ⟨#[68, 83]⟩ 73 = false := by decide +kernel
  go_enter Try.func14, Try.ntmps14
  go_wp2_with (first | (go_at_call 16; refine (form_any _ _).mono ?_; rw [hf]; rintro e w' ⟨rfl, rfl⟩) | (go_at_call 15; refine (rhas_any _ _ _ (by decide)).mono ?_; (first | rw [c68] | rw [c83] | rw [c84] | rw [c77] | rw [c105] | rw [c98] | rw [c73]); rintro e w' ⟨rfl, rfl⟩) | (go_at_call 34; refine (rregister_any _ _).mono ?_; (first | rw [h0] | rw [h1]); rintro e w' ⟨rfl, rfl⟩))
  go_ret
  first | exact ⟨rfl, B1 _⟩ | exact ⟨rfl, (B1 _).trans (hb1.mono (by simp))⟩
theorem rcheck_DS (op d s t mb mi ms md imm : Int) (w : World) (hf : formB op = ⟨#[68, 83]⟩) :
    Calls Try.prog 14 #[.agg #[.int .i64 op, .int .i64 d, .int .i64 s, .int .i64 t, .int .i64 mb, .int .i64 mi, .int .i64 ms, .int .i64 md, .int .i64 imm]] w fun e w' => e = .returned (.int .i64 (errOf (reg d && reg s && (t == 0) && memZ mb mi ms md && (imm == 0)))) ∧ Below w.heap.size w w' := by
  cases h0 : reg d
  · have e : errOf (reg d && reg s && (t == 0) && memZ mb mi ms md && (imm == 0)) = 2 := by simp [errOf, h0]
    rw [h0] at e
    exact rcheck_DS_0 op d s t mb mi ms md imm w hf h0
  cases h1 : reg s
  · have e : errOf (reg d && reg s && (t == 0) && memZ mb mi ms md && (imm == 0)) = 2 := by simp [errOf, h0, h1]
    simp only [h0] at e; rw [h1] at e
    exact rcheck_DS_1 op d s t mb mi ms md imm w hf h0 h1
  cases h2 : (t == 0)
  · have e : errOf (reg d && reg s && (t == 0) && memZ mb mi ms md && (imm == 0)) = 2 := by simp [errOf, h0, h1, h2]
    simp only [h0, h1] at e; rw [h2] at e
    exact rcheck_DS_2 op d s t mb mi ms md imm w hf h0 h1 h2
  cases h3 : memZ mb mi ms md
  · have e : errOf (reg d && reg s && (t == 0) && memZ mb mi ms md && (imm == 0)) = 2 := by simp [errOf, h0, h1, h2, h3]
    simp only [h0, h1, h2] at e; rw [h3] at e
    exact rcheck_DS_3 op d s t mb mi ms md imm w hf h0 h1 h2 h3
  cases h4 : (imm == 0)
  · have e : errOf (reg d && reg s && (t == 0) && memZ mb mi ms md && (imm == 0)) = 2 := by simp [errOf, h0, h1, h2, h3, h4]
    simp only [h0, h1, h2, h3] at e; rw [h4] at e
    exact rcheck_DS_4 op d s t mb mi ms md imm w hf h0 h1 h2 h3 h4
  exact rcheck_DS_5 op d s t mb mi ms md imm w hf h0 h1 h2 h3 h4
set_option maxRecDepth 100000 in
set_option maxHeartbeats 2000000 in
theorem rcheck_Di64_0 (op d s t mb mi ms md imm : Int) (w : World) (hf : formB op = ⟨#[68, 73]⟩) (h0 : reg d = false) :
    Calls Try.prog 14 #[.agg #[.int .i64 op, .int .i64 d, .int .i64 s, .int .i64 t, .int .i64 mb, .int .i64 mi, .int .i64 ms, .int .i64 md, .int .i64 imm]] w fun e w' => e = .returned (.int .i64 2) ∧ Below w.heap.size w w' := by
  have B1 : ∀ o, Below w.heap.size w (w.alloc o) := fun o => (Below.refl _ _).alloc (Nat.le_refl _) o
  have c68 : hasC ⟨#[68, 73]⟩ 68 = true := by decide +kernel
  have c83 : hasC ⟨#[68, 73]⟩ 83 = false := by decide +kernel
  have c84 : hasC ⟨#[68, 73]⟩ 84 = false := by decide +kernel
  have c77 : hasC ⟨#[68, 73]⟩ 77 = false := by decide +kernel
  have c105 : hasC ⟨#[68, 73]⟩ 105 = false := by decide +kernel
  have c98 : hasC ⟨#[68, 73]⟩ 98 = false := by decide +kernel
  have c73 : hasC ⟨#[68, 73]⟩ 73 = true := by decide +kernel
  go_enter Try.func14, Try.ntmps14
  go_wp2_with (first | (go_at_call 16; refine (form_any _ _).mono ?_; rw [hf]; rintro e w' ⟨rfl, rfl⟩) | (go_at_call 15; refine (rhas_any _ _ _ (by decide)).mono ?_; (first | rw [c68] | rw [c83] | rw [c84] | rw [c77] | rw [c105] | rw [c98] | rw [c73]); rintro e w' ⟨rfl, rfl⟩) | (go_at_call 34; refine (rregister_any _ _).mono ?_; (first | rw [h0]); rintro e w' ⟨rfl, rfl⟩))
  go_ret
  first | exact ⟨rfl, B1 _⟩ | exact ⟨rfl, (B1 _).trans (hb1.mono (by simp))⟩
set_option maxRecDepth 100000 in
set_option maxHeartbeats 2000000 in
theorem rcheck_Di64_1 (op d s t mb mi ms md imm : Int) (w : World) (hf : formB op = ⟨#[68, 73]⟩) (h0 : reg d = true) (h1 : (s == 0) = false) :
    Calls Try.prog 14 #[.agg #[.int .i64 op, .int .i64 d, .int .i64 s, .int .i64 t, .int .i64 mb, .int .i64 mi, .int .i64 ms, .int .i64 md, .int .i64 imm]] w fun e w' => e = .returned (.int .i64 2) ∧ Below w.heap.size w w' := by
  have B1 : ∀ o, Below w.heap.size w (w.alloc o) := fun o => (Below.refl _ _).alloc (Nat.le_refl _) o
  have c68 : hasC ⟨#[68, 73]⟩ 68 = true := by decide +kernel
  have c83 : hasC ⟨#[68, 73]⟩ 83 = false := by decide +kernel
  have c84 : hasC ⟨#[68, 73]⟩ 84 = false := by decide +kernel
  have c77 : hasC ⟨#[68, 73]⟩ 77 = false := by decide +kernel
  have c105 : hasC ⟨#[68, 73]⟩ 105 = false := by decide +kernel
  have c98 : hasC ⟨#[68, 73]⟩ 98 = false := by decide +kernel
  have c73 : hasC ⟨#[68, 73]⟩ 73 = true := by decide +kernel
  go_enter Try.func14, Try.ntmps14
  go_wp2_with (first | (go_at_call 16; refine (form_any _ _).mono ?_; rw [hf]; rintro e w' ⟨rfl, rfl⟩) | (go_at_call 15; refine (rhas_any _ _ _ (by decide)).mono ?_; (first | rw [c68] | rw [c83] | rw [c84] | rw [c77] | rw [c105] | rw [c98] | rw [c73]); rintro e w' ⟨rfl, rfl⟩) | (go_at_call 34; refine (rregister_any _ _).mono ?_; (first | rw [h0]); rintro e w' ⟨rfl, rfl⟩))
  go_ret
  first | exact ⟨rfl, B1 _⟩ | exact ⟨rfl, (B1 _).trans (hb1.mono (by simp))⟩
set_option maxRecDepth 100000 in
set_option maxHeartbeats 2000000 in
theorem rcheck_Di64_2 (op d s t mb mi ms md imm : Int) (w : World) (hf : formB op = ⟨#[68, 73]⟩) (h0 : reg d = true) (h1 : (s == 0) = true) (h2 : (t == 0) = false) :
    Calls Try.prog 14 #[.agg #[.int .i64 op, .int .i64 d, .int .i64 s, .int .i64 t, .int .i64 mb, .int .i64 mi, .int .i64 ms, .int .i64 md, .int .i64 imm]] w fun e w' => e = .returned (.int .i64 2) ∧ Below w.heap.size w w' := by
  have B1 : ∀ o, Below w.heap.size w (w.alloc o) := fun o => (Below.refl _ _).alloc (Nat.le_refl _) o
  have c68 : hasC ⟨#[68, 73]⟩ 68 = true := by decide +kernel
  have c83 : hasC ⟨#[68, 73]⟩ 83 = false := by decide +kernel
  have c84 : hasC ⟨#[68, 73]⟩ 84 = false := by decide +kernel
  have c77 : hasC ⟨#[68, 73]⟩ 77 = false := by decide +kernel
  have c105 : hasC ⟨#[68, 73]⟩ 105 = false := by decide +kernel
  have c98 : hasC ⟨#[68, 73]⟩ 98 = false := by decide +kernel
  have c73 : hasC ⟨#[68, 73]⟩ 73 = true := by decide +kernel
  go_enter Try.func14, Try.ntmps14
  go_wp2_with (first | (go_at_call 16; refine (form_any _ _).mono ?_; rw [hf]; rintro e w' ⟨rfl, rfl⟩) | (go_at_call 15; refine (rhas_any _ _ _ (by decide)).mono ?_; (first | rw [c68] | rw [c83] | rw [c84] | rw [c77] | rw [c105] | rw [c98] | rw [c73]); rintro e w' ⟨rfl, rfl⟩) | (go_at_call 34; refine (rregister_any _ _).mono ?_; (first | rw [h0]); rintro e w' ⟨rfl, rfl⟩))
  go_ret
  first | exact ⟨rfl, B1 _⟩ | exact ⟨rfl, (B1 _).trans (hb1.mono (by simp))⟩
set_option maxRecDepth 100000 in
set_option maxHeartbeats 2000000 in
theorem rcheck_Di64_3 (op d s t mb mi ms md imm : Int) (w : World) (hf : formB op = ⟨#[68, 73]⟩) (h0 : reg d = true) (h1 : (s == 0) = true) (h2 : (t == 0) = true) (h3 : memZ mb mi ms md = false) :
    Calls Try.prog 14 #[.agg #[.int .i64 op, .int .i64 d, .int .i64 s, .int .i64 t, .int .i64 mb, .int .i64 mi, .int .i64 ms, .int .i64 md, .int .i64 imm]] w fun e w' => e = .returned (.int .i64 2) ∧ Below w.heap.size w w' := by
  have B1 : ∀ o, Below w.heap.size w (w.alloc o) := fun o => (Below.refl _ _).alloc (Nat.le_refl _) o
  have hne := fun w => mem_eql mb mi ms md w
  rw [h3] at hne
  have c68 : hasC ⟨#[68, 73]⟩ 68 = true := by decide +kernel
  have c83 : hasC ⟨#[68, 73]⟩ 83 = false := by decide +kernel
  have c84 : hasC ⟨#[68, 73]⟩ 84 = false := by decide +kernel
  have c77 : hasC ⟨#[68, 73]⟩ 77 = false := by decide +kernel
  have c105 : hasC ⟨#[68, 73]⟩ 105 = false := by decide +kernel
  have c98 : hasC ⟨#[68, 73]⟩ 98 = false := by decide +kernel
  have c73 : hasC ⟨#[68, 73]⟩ 73 = true := by decide +kernel
  go_enter Try.func14, Try.ntmps14
  go_wp2_with (first | (go_at_call 16; refine (form_any _ _).mono ?_; rw [hf]; rintro e w' ⟨rfl, rfl⟩) | (go_at_call 15; refine (rhas_any _ _ _ (by decide)).mono ?_; (first | rw [c68] | rw [c83] | rw [c84] | rw [c77] | rw [c105] | rw [c98] | rw [c73]); rintro e w' ⟨rfl, rfl⟩) | (go_at_call 34; refine (rregister_any _ _).mono ?_; (first | rw [h0]); rintro e w' ⟨rfl, rfl⟩))
  go_ret
  first | exact ⟨rfl, B1 _⟩ | exact ⟨rfl, (B1 _).trans (hb1.mono (by simp))⟩
set_option maxRecDepth 100000 in
set_option maxHeartbeats 2000000 in
theorem rcheck_Di64_4 (op d s t mb mi ms md imm : Int) (w : World) (hf : formB op = ⟨#[68, 73]⟩) (h0 : reg d = true) (h1 : (s == 0) = true) (h2 : (t == 0) = true) (h3 : memZ mb mi ms md = true) :
    Calls Try.prog 14 #[.agg #[.int .i64 op, .int .i64 d, .int .i64 s, .int .i64 t, .int .i64 mb, .int .i64 mi, .int .i64 ms, .int .i64 md, .int .i64 imm]] w fun e w' => e = .returned (.int .i64 0) ∧ Below w.heap.size w w' := by
  have B1 : ∀ o, Below w.heap.size w (w.alloc o) := fun o => (Below.refl _ _).alloc (Nat.le_refl _) o
  have hne := fun w => mem_eql mb mi ms md w
  rw [h3] at hne
  have c68 : hasC ⟨#[68, 73]⟩ 68 = true := by decide +kernel
  have c83 : hasC ⟨#[68, 73]⟩ 83 = false := by decide +kernel
  have c84 : hasC ⟨#[68, 73]⟩ 84 = false := by decide +kernel
  have c77 : hasC ⟨#[68, 73]⟩ 77 = false := by decide +kernel
  have c105 : hasC ⟨#[68, 73]⟩ 105 = false := by decide +kernel
  have c98 : hasC ⟨#[68, 73]⟩ 98 = false := by decide +kernel
  have c73 : hasC ⟨#[68, 73]⟩ 73 = true := by decide +kernel
  go_enter Try.func14, Try.ntmps14
  go_wp2_with (first | (go_at_call 16; refine (form_any _ _).mono ?_; rw [hf]; rintro e w' ⟨rfl, rfl⟩) | (go_at_call 15; refine (rhas_any _ _ _ (by decide)).mono ?_; (first | rw [c68] | rw [c83] | rw [c84] | rw [c77] | rw [c105] | rw [c98] | rw [c73]); rintro e w' ⟨rfl, rfl⟩) | (go_at_call 34; refine (rregister_any _ _).mono ?_; (first | rw [h0]); rintro e w' ⟨rfl, rfl⟩))
  go_ret
  first | exact ⟨rfl, B1 _⟩ | exact ⟨rfl, (B1 _).trans (hb1.mono (by simp))⟩
theorem rcheck_Di64 (op d s t mb mi ms md imm : Int) (w : World) (hf : formB op = ⟨#[68, 73]⟩) :
    Calls Try.prog 14 #[.agg #[.int .i64 op, .int .i64 d, .int .i64 s, .int .i64 t, .int .i64 mb, .int .i64 mi, .int .i64 ms, .int .i64 md, .int .i64 imm]] w fun e w' => e = .returned (.int .i64 (errOf (reg d && (s == 0) && (t == 0) && memZ mb mi ms md))) ∧ Below w.heap.size w w' := by
  cases h0 : reg d
  · have e : errOf (reg d && (s == 0) && (t == 0) && memZ mb mi ms md) = 2 := by simp [errOf, h0]
    rw [h0] at e
    exact rcheck_Di64_0 op d s t mb mi ms md imm w hf h0
  cases h1 : (s == 0)
  · have e : errOf (reg d && (s == 0) && (t == 0) && memZ mb mi ms md) = 2 := by simp [errOf, h0, h1]
    simp only [h0] at e; rw [h1] at e
    exact rcheck_Di64_1 op d s t mb mi ms md imm w hf h0 h1
  cases h2 : (t == 0)
  · have e : errOf (reg d && (s == 0) && (t == 0) && memZ mb mi ms md) = 2 := by simp [errOf, h0, h1, h2]
    simp only [h0, h1] at e; rw [h2] at e
    exact rcheck_Di64_2 op d s t mb mi ms md imm w hf h0 h1 h2
  cases h3 : memZ mb mi ms md
  · have e : errOf (reg d && (s == 0) && (t == 0) && memZ mb mi ms md) = 2 := by simp [errOf, h0, h1, h2, h3]
    simp only [h0, h1, h2] at e; rw [h3] at e
    exact rcheck_Di64_3 op d s t mb mi ms md imm w hf h0 h1 h2 h3
  exact rcheck_Di64_4 op d s t mb mi ms md imm w hf h0 h1 h2 h3
set_option maxRecDepth 100000 in
set_option maxHeartbeats 2000000 in
theorem rcheck_DM_0 (op d s t mb mi ms md imm : Int) (w : World) (hf : formB op = ⟨#[68, 77]⟩) (h0 : reg d = false) :
    Calls Try.prog 14 #[.agg #[.int .i64 op, .int .i64 d, .int .i64 s, .int .i64 t, .int .i64 mb, .int .i64 mi, .int .i64 ms, .int .i64 md, .int .i64 imm]] w fun e w' => e = .returned (.int .i64 2) ∧ Below w.heap.size w w' := by
  have B1 : ∀ o, Below w.heap.size w (w.alloc o) := fun o => (Below.refl _ _).alloc (Nat.le_refl _) o
  have c68 : hasC ⟨#[68, 77]⟩ 68 = true := by decide +kernel
  have c83 : hasC ⟨#[68, 77]⟩ 83 = false := by decide +kernel
  have c84 : hasC ⟨#[68, 77]⟩ 84 = false := by decide +kernel
  have c77 : hasC ⟨#[68, 77]⟩ 77 = true := by decide +kernel
  have c105 : hasC ⟨#[68, 77]⟩ 105 = false := by decide +kernel
  have c98 : hasC ⟨#[68, 77]⟩ 98 = false := by decide +kernel
  have c73 : hasC ⟨#[68, 77]⟩ 73 = false := by decide +kernel
  go_enter Try.func14, Try.ntmps14
  go_wp2_with (first | (go_at_call 16; refine (form_any _ _).mono ?_; rw [hf]; rintro e w' ⟨rfl, rfl⟩) | (go_at_call 15; refine (rhas_any _ _ _ (by decide)).mono ?_; (first | rw [c68] | rw [c83] | rw [c84] | rw [c77] | rw [c105] | rw [c98] | rw [c73]); rintro e w' ⟨rfl, rfl⟩) | (go_at_call 34; refine (rregister_any _ _).mono ?_; (first | rw [h0]); rintro e w' ⟨rfl, rfl⟩))
  go_ret
  first | exact ⟨rfl, B1 _⟩ | exact ⟨rfl, (B1 _).trans (hb1.mono (by simp))⟩
set_option maxRecDepth 100000 in
set_option maxHeartbeats 2000000 in
theorem rcheck_DM_1 (op d s t mb mi ms md imm : Int) (w : World) (hf : formB op = ⟨#[68, 77]⟩) (h0 : reg d = true) (h1 : (s == 0) = false) :
    Calls Try.prog 14 #[.agg #[.int .i64 op, .int .i64 d, .int .i64 s, .int .i64 t, .int .i64 mb, .int .i64 mi, .int .i64 ms, .int .i64 md, .int .i64 imm]] w fun e w' => e = .returned (.int .i64 2) ∧ Below w.heap.size w w' := by
  have B1 : ∀ o, Below w.heap.size w (w.alloc o) := fun o => (Below.refl _ _).alloc (Nat.le_refl _) o
  have c68 : hasC ⟨#[68, 77]⟩ 68 = true := by decide +kernel
  have c83 : hasC ⟨#[68, 77]⟩ 83 = false := by decide +kernel
  have c84 : hasC ⟨#[68, 77]⟩ 84 = false := by decide +kernel
  have c77 : hasC ⟨#[68, 77]⟩ 77 = true := by decide +kernel
  have c105 : hasC ⟨#[68, 77]⟩ 105 = false := by decide +kernel
  have c98 : hasC ⟨#[68, 77]⟩ 98 = false := by decide +kernel
  have c73 : hasC ⟨#[68, 77]⟩ 73 = false := by decide +kernel
  go_enter Try.func14, Try.ntmps14
  go_wp2_with (first | (go_at_call 16; refine (form_any _ _).mono ?_; rw [hf]; rintro e w' ⟨rfl, rfl⟩) | (go_at_call 15; refine (rhas_any _ _ _ (by decide)).mono ?_; (first | rw [c68] | rw [c83] | rw [c84] | rw [c77] | rw [c105] | rw [c98] | rw [c73]); rintro e w' ⟨rfl, rfl⟩) | (go_at_call 34; refine (rregister_any _ _).mono ?_; (first | rw [h0]); rintro e w' ⟨rfl, rfl⟩))
  go_ret
  first | exact ⟨rfl, B1 _⟩ | exact ⟨rfl, (B1 _).trans (hb1.mono (by simp))⟩
set_option maxRecDepth 100000 in
set_option maxHeartbeats 2000000 in
theorem rcheck_DM_2 (op d s t mb mi ms md imm : Int) (w : World) (hf : formB op = ⟨#[68, 77]⟩) (h0 : reg d = true) (h1 : (s == 0) = true) (h2 : (t == 0) = false) :
    Calls Try.prog 14 #[.agg #[.int .i64 op, .int .i64 d, .int .i64 s, .int .i64 t, .int .i64 mb, .int .i64 mi, .int .i64 ms, .int .i64 md, .int .i64 imm]] w fun e w' => e = .returned (.int .i64 2) ∧ Below w.heap.size w w' := by
  have B1 : ∀ o, Below w.heap.size w (w.alloc o) := fun o => (Below.refl _ _).alloc (Nat.le_refl _) o
  have c68 : hasC ⟨#[68, 77]⟩ 68 = true := by decide +kernel
  have c83 : hasC ⟨#[68, 77]⟩ 83 = false := by decide +kernel
  have c84 : hasC ⟨#[68, 77]⟩ 84 = false := by decide +kernel
  have c77 : hasC ⟨#[68, 77]⟩ 77 = true := by decide +kernel
  have c105 : hasC ⟨#[68, 77]⟩ 105 = false := by decide +kernel
  have c98 : hasC ⟨#[68, 77]⟩ 98 = false := by decide +kernel
  have c73 : hasC ⟨#[68, 77]⟩ 73 = false := by decide +kernel
  go_enter Try.func14, Try.ntmps14
  go_wp2_with (first | (go_at_call 16; refine (form_any _ _).mono ?_; rw [hf]; rintro e w' ⟨rfl, rfl⟩) | (go_at_call 15; refine (rhas_any _ _ _ (by decide)).mono ?_; (first | rw [c68] | rw [c83] | rw [c84] | rw [c77] | rw [c105] | rw [c98] | rw [c73]); rintro e w' ⟨rfl, rfl⟩) | (go_at_call 34; refine (rregister_any _ _).mono ?_; (first | rw [h0]); rintro e w' ⟨rfl, rfl⟩))
  go_ret
  first | exact ⟨rfl, B1 _⟩ | exact ⟨rfl, (B1 _).trans (hb1.mono (by simp))⟩
set_option maxRecDepth 100000 in
set_option maxHeartbeats 2000000 in
theorem rcheck_DM_3 (op d s t mb mi ms md imm : Int) (w : World) (hf : formB op = ⟨#[68, 77]⟩) (h0 : reg d = true) (h1 : (s == 0) = true) (h2 : (t == 0) = true) (h3 : plc mb mi ms md = false) :
    Calls Try.prog 14 #[.agg #[.int .i64 op, .int .i64 d, .int .i64 s, .int .i64 t, .int .i64 mb, .int .i64 mi, .int .i64 ms, .int .i64 md, .int .i64 imm]] w fun e w' => e = .returned (.int .i64 2) ∧ Below w.heap.size w w' := by
  have B1 : ∀ o, Below w.heap.size w (w.alloc o) := fun o => (Below.refl _ _).alloc (Nat.le_refl _) o
  have c68 : hasC ⟨#[68, 77]⟩ 68 = true := by decide +kernel
  have c83 : hasC ⟨#[68, 77]⟩ 83 = false := by decide +kernel
  have c84 : hasC ⟨#[68, 77]⟩ 84 = false := by decide +kernel
  have c77 : hasC ⟨#[68, 77]⟩ 77 = true := by decide +kernel
  have c105 : hasC ⟨#[68, 77]⟩ 105 = false := by decide +kernel
  have c98 : hasC ⟨#[68, 77]⟩ 98 = false := by decide +kernel
  have c73 : hasC ⟨#[68, 77]⟩ 73 = false := by decide +kernel
  go_enter Try.func14, Try.ntmps14
  go_wp2_with (first | (go_at_call 16; refine (form_any _ _).mono ?_; rw [hf]; rintro e w' ⟨rfl, rfl⟩) | (go_at_call 15; refine (rhas_any _ _ _ (by decide)).mono ?_; (first | rw [c68] | rw [c83] | rw [c84] | rw [c77] | rw [c105] | rw [c98] | rw [c73]); rintro e w' ⟨rfl, rfl⟩) | (go_at_call 34; refine (rregister_any _ _).mono ?_; (first | rw [h0]); rintro e w' ⟨rfl, rfl⟩) | (go_at_call 35; refine (rplace_any _ _ _ _ _).mono ?_; rw [h3]; rintro e w1 ⟨rfl, hb1⟩; have hc8 : w1.cell? ⟨w.heap.size, 8, none⟩ = some (.int .i64 imm) := ((bcell hb1).1 _ _ (by simp)).trans (by go_simp)))
  go_ret
  first | exact ⟨rfl, B1 _⟩ | exact ⟨rfl, (B1 _).trans (hb1.mono (by simp))⟩
set_option maxRecDepth 100000 in
set_option maxHeartbeats 2000000 in
theorem rcheck_DM_4 (op d s t mb mi ms md imm : Int) (w : World) (hf : formB op = ⟨#[68, 77]⟩) (h0 : reg d = true) (h1 : (s == 0) = true) (h2 : (t == 0) = true) (h3 : plc mb mi ms md = true) (h4 : (imm == 0) = false) :
    Calls Try.prog 14 #[.agg #[.int .i64 op, .int .i64 d, .int .i64 s, .int .i64 t, .int .i64 mb, .int .i64 mi, .int .i64 ms, .int .i64 md, .int .i64 imm]] w fun e w' => e = .returned (.int .i64 2) ∧ Below w.heap.size w w' := by
  have B1 : ∀ o, Below w.heap.size w (w.alloc o) := fun o => (Below.refl _ _).alloc (Nat.le_refl _) o
  have c68 : hasC ⟨#[68, 77]⟩ 68 = true := by decide +kernel
  have c83 : hasC ⟨#[68, 77]⟩ 83 = false := by decide +kernel
  have c84 : hasC ⟨#[68, 77]⟩ 84 = false := by decide +kernel
  have c77 : hasC ⟨#[68, 77]⟩ 77 = true := by decide +kernel
  have c105 : hasC ⟨#[68, 77]⟩ 105 = false := by decide +kernel
  have c98 : hasC ⟨#[68, 77]⟩ 98 = false := by decide +kernel
  have c73 : hasC ⟨#[68, 77]⟩ 73 = false := by decide +kernel
  go_enter Try.func14, Try.ntmps14
  go_wp2_with (first | (go_at_call 16; refine (form_any _ _).mono ?_; rw [hf]; rintro e w' ⟨rfl, rfl⟩) | (go_at_call 15; refine (rhas_any _ _ _ (by decide)).mono ?_; (first | rw [c68] | rw [c83] | rw [c84] | rw [c77] | rw [c105] | rw [c98] | rw [c73]); rintro e w' ⟨rfl, rfl⟩) | (go_at_call 34; refine (rregister_any _ _).mono ?_; (first | rw [h0]); rintro e w' ⟨rfl, rfl⟩) | (go_at_call 35; refine (rplace_any _ _ _ _ _).mono ?_; rw [h3]; rintro e w1 ⟨rfl, hb1⟩; have hc8 : w1.cell? ⟨w.heap.size, 8, none⟩ = some (.int .i64 imm) := ((bcell hb1).1 _ _ (by simp)).trans (by go_simp)))
  go_ret
  first | exact ⟨rfl, B1 _⟩ | exact ⟨rfl, (B1 _).trans (hb1.mono (by simp))⟩
set_option maxRecDepth 100000 in
set_option maxHeartbeats 2000000 in
theorem rcheck_DM_5 (op d s t mb mi ms md imm : Int) (w : World) (hf : formB op = ⟨#[68, 77]⟩) (h0 : reg d = true) (h1 : (s == 0) = true) (h2 : (t == 0) = true) (h3 : plc mb mi ms md = true) (h4 : (imm == 0) = true) :
    Calls Try.prog 14 #[.agg #[.int .i64 op, .int .i64 d, .int .i64 s, .int .i64 t, .int .i64 mb, .int .i64 mi, .int .i64 ms, .int .i64 md, .int .i64 imm]] w fun e w' => e = .returned (.int .i64 0) ∧ Below w.heap.size w w' := by
  have B1 : ∀ o, Below w.heap.size w (w.alloc o) := fun o => (Below.refl _ _).alloc (Nat.le_refl _) o
  have c68 : hasC ⟨#[68, 77]⟩ 68 = true := by decide +kernel
  have c83 : hasC ⟨#[68, 77]⟩ 83 = false := by decide +kernel
  have c84 : hasC ⟨#[68, 77]⟩ 84 = false := by decide +kernel
  have c77 : hasC ⟨#[68, 77]⟩ 77 = true := by decide +kernel
  have c105 : hasC ⟨#[68, 77]⟩ 105 = false := by decide +kernel
  have c98 : hasC ⟨#[68, 77]⟩ 98 = false := by decide +kernel
  have c73 : hasC ⟨#[68, 77]⟩ 73 = false := by decide +kernel
  go_enter Try.func14, Try.ntmps14
  go_wp2_with (first | (go_at_call 16; refine (form_any _ _).mono ?_; rw [hf]; rintro e w' ⟨rfl, rfl⟩) | (go_at_call 15; refine (rhas_any _ _ _ (by decide)).mono ?_; (first | rw [c68] | rw [c83] | rw [c84] | rw [c77] | rw [c105] | rw [c98] | rw [c73]); rintro e w' ⟨rfl, rfl⟩) | (go_at_call 34; refine (rregister_any _ _).mono ?_; (first | rw [h0]); rintro e w' ⟨rfl, rfl⟩) | (go_at_call 35; refine (rplace_any _ _ _ _ _).mono ?_; rw [h3]; rintro e w1 ⟨rfl, hb1⟩; have hc8 : w1.cell? ⟨w.heap.size, 8, none⟩ = some (.int .i64 imm) := ((bcell hb1).1 _ _ (by simp)).trans (by go_simp)))
  go_ret
  first | exact ⟨rfl, B1 _⟩ | exact ⟨rfl, (B1 _).trans (hb1.mono (by simp))⟩
theorem rcheck_DM (op d s t mb mi ms md imm : Int) (w : World) (hf : formB op = ⟨#[68, 77]⟩) :
    Calls Try.prog 14 #[.agg #[.int .i64 op, .int .i64 d, .int .i64 s, .int .i64 t, .int .i64 mb, .int .i64 mi, .int .i64 ms, .int .i64 md, .int .i64 imm]] w fun e w' => e = .returned (.int .i64 (errOf (reg d && (s == 0) && (t == 0) && plc mb mi ms md && (imm == 0)))) ∧ Below w.heap.size w w' := by
  cases h0 : reg d
  · have e : errOf (reg d && (s == 0) && (t == 0) && plc mb mi ms md && (imm == 0)) = 2 := by simp [errOf, h0]
    rw [h0] at e
    exact rcheck_DM_0 op d s t mb mi ms md imm w hf h0
  cases h1 : (s == 0)
  · have e : errOf (reg d && (s == 0) && (t == 0) && plc mb mi ms md && (imm == 0)) = 2 := by simp [errOf, h0, h1]
    simp only [h0] at e; rw [h1] at e
    exact rcheck_DM_1 op d s t mb mi ms md imm w hf h0 h1
  cases h2 : (t == 0)
  · have e : errOf (reg d && (s == 0) && (t == 0) && plc mb mi ms md && (imm == 0)) = 2 := by simp [errOf, h0, h1, h2]
    simp only [h0, h1] at e; rw [h2] at e
    exact rcheck_DM_2 op d s t mb mi ms md imm w hf h0 h1 h2
  cases h3 : plc mb mi ms md
  · have e : errOf (reg d && (s == 0) && (t == 0) && plc mb mi ms md && (imm == 0)) = 2 := by simp [errOf, h0, h1, h2, h3]
    simp only [h0, h1, h2] at e; rw [h3] at e
    exact rcheck_DM_3 op d s t mb mi ms md imm w hf h0 h1 h2 h3
  cases h4 : (imm == 0)
  · have e : errOf (reg d && (s == 0) && (t == 0) && plc mb mi ms md && (imm == 0)) = 2 := by simp [errOf, h0, h1, h2, h3, h4]
    simp only [h0, h1, h2, h3] at e; rw [h4] at e
    exact rcheck_DM_4 op d s t mb mi ms md imm w hf h0 h1 h2 h3 h4
  exact rcheck_DM_5 op d s t mb mi ms md imm w hf h0 h1 h2 h3 h4
set_option maxRecDepth 100000 in
set_option maxHeartbeats 2000000 in
theorem rcheck_none (op d s t mb mi ms md imm : Int) (w : World) (hf : formB op = ⟨#[]⟩)  :
    Calls Try.prog 14 #[.agg #[.int .i64 op, .int .i64 d, .int .i64 s, .int .i64 t, .int .i64 mb, .int .i64 mi, .int .i64 ms, .int .i64 md, .int .i64 imm]] w fun e w' => e = .returned (.int .i64 2) ∧ Below w.heap.size w w' := by
  have B1 : ∀ o, Below w.heap.size w (w.alloc o) := fun o => (Below.refl _ _).alloc (Nat.le_refl _) o
  have c68 : hasC ⟨#[]⟩ 68 = false := by decide +kernel
  have c83 : hasC ⟨#[]⟩ 83 = false := by decide +kernel
  have c84 : hasC ⟨#[]⟩ 84 = false := by decide +kernel
  have c77 : hasC ⟨#[]⟩ 77 = false := by decide +kernel
  have c105 : hasC ⟨#[]⟩ 105 = false := by decide +kernel
  have c98 : hasC ⟨#[]⟩ 98 = false := by decide +kernel
  have c73 : hasC ⟨#[]⟩ 73 = false := by decide +kernel
  go_enter Try.func14, Try.ntmps14
  go_wp2_with (first | (go_at_call 16; refine (form_any _ _).mono ?_; rw [hf]; rintro e w' ⟨rfl, rfl⟩) | (go_at_call 15; refine (rhas_any _ _ _ (by decide)).mono ?_; (first | rw [c68] | rw [c83] | rw [c84] | rw [c77] | rw [c105] | rw [c98] | rw [c73]); rintro e w' ⟨rfl, rfl⟩))
  go_ret
  first | exact ⟨rfl, B1 _⟩ | exact ⟨rfl, (B1 _).trans (hb1.mono (by simp))⟩
end Go.Proofs.Ytakmpnmmcjnecaa
