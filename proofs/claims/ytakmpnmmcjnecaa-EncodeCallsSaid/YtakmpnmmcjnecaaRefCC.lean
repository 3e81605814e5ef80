/- keysmithref05 (the document's answer for layer 5): Check, its cases C. Conditions: none. -/
import Derived.Test.YtakmpnmmcjnecaaRefP
namespace Go.Proofs.Ytakmpnmmcjnecaa
open Go.RowKit Calm

set_option maxRecDepth 100000 in
set_option maxHeartbeats 2000000 in
theorem rcheck_D_0 (op d s t mb mi ms md imm : Int) (w : World) (hf : formB op = ⟨#[68]⟩) (h0 : reg d = false) :
    Calls Try.prog 14 #[.agg #[.int .i64 op, .int .i64 d, .int .i64 s, .int .i64 t, .int .i64 mb, .int .i64 mi, .int .i64 ms, .int .i64 md, .int .i64 imm]] w fun e w' => e = .returned (.int .i64 2) ∧ Below w.heap.size w w' := by
  have B1 : ∀ o, Below w.heap.size w (w.alloc o) := fun o => (Below.refl _ _).alloc (Nat.le_refl _) o
  have c68 : hasC ⟨#[68]⟩ 68 = true := by decide +kernel
  have c83 : hasC ⟨#[68]⟩ 83 = false := by decide +kernel
  have c84 : hasC ⟨#[68]⟩ 84 = false := by decide +kernel
  have c77 : hasC ⟨#[68]⟩ 77 = false := by decide +kernel
  have c105 : hasC ⟨#[68]⟩ 105 = false := by decide +kernel
  have c98 : hasC ⟨#[68]⟩ 98 = false := by decide +kernel
  have c73 : hasC ⟨#[68]⟩ 73 = false := by decide +kernel
  go_enter Try.func14, Try.ntmps14
  go_wp2_with (first | (go_at_call 16; refine (form_any _ _).mono ?_; rw [hf]; rintro e w' ⟨rfl, rfl⟩) | (go_at_call 15; refine (rhas_any _ _ _ (by decide)).mono ?_; (first | rw [c68] | rw [c83] | rw [c84] | rw [c77] | rw [c105] | rw [c98] | rw [c73]); rintro e w' ⟨rfl, rfl⟩) | (go_at_call 34; refine (rregister_any _ _).mono ?_; (first | rw [h0]); rintro e w' ⟨rfl, rfl⟩))
  go_ret
  first | exact ⟨rfl, B1 _⟩ | exact ⟨rfl, (B1 _).trans (hb1.mono (by simp))⟩
set_option maxRecDepth 100000 in
set_option maxHeartbeats 2000000 in
theorem rcheck_D_1 (op d s t mb mi ms md imm : Int) (w : World) (hf : formB op = ⟨#[68]⟩) (h0 : reg d = true) (h1 : (s == 0) = false) :
    Calls Try.prog 14 #[.agg #[.int .i64 op, .int .i64 d, .int .i64 s, .int .i64 t, .int .i64 mb, .int .i64 mi, .int .i64 ms, .int .i64 md, .int .i64 imm]] w fun e w' => e = .returned (.int .i64 2) ∧ Below w.heap.size w w' := by
  have B1 : ∀ o, Below w.heap.size w (w.alloc o) := fun o => (Below.refl _ _).alloc (Nat.le_refl _) o
  have c68 : hasC ⟨#[68]⟩ 68 = true := by decide +kernel
  have c83 : hasC ⟨#[68]⟩ 83 = false := by decide +kernel
  have c84 : hasC ⟨#[68]⟩ 84 = false := by decide +kernel
  have c77 : hasC ⟨#[68]⟩ 77 = false := by decide +kernel
  have c105 : hasC ⟨#[68]⟩ 105 = false := by decide +kernel
  have c98 : hasC ⟨#[68]⟩ 98 = false := by decide +kernel
  have c73 : hasC ⟨#[68]⟩ 73 = false := by decide +kernel
  go_enter Try.func14, Try.ntmps14
  go_wp2_with (first | (go_at_call 16; refine (form_any _ _).mono ?_; rw [hf]; rintro e w' ⟨rfl, rfl⟩) | (go_at_call 15; refine (rhas_any _ _ _ (by decide)).mono ?_; (first | rw [c68] | rw [c83] | rw [c84] | rw [c77] | rw [c105] | rw [c98] | rw [c73]); rintro e w' ⟨rfl, rfl⟩) | (go_at_call 34; refine (rregister_any _ _).mono ?_; (first | rw [h0]); rintro e w' ⟨rfl, rfl⟩))
  go_ret
  first | exact ⟨rfl, B1 _⟩ | exact ⟨rfl, (B1 _).trans (hb1.mono (by simp))⟩
set_option maxRecDepth 100000 in
set_option maxHeartbeats 2000000 in
theorem rcheck_D_2 (op d s t mb mi ms md imm : Int) (w : World) (hf : formB op = ⟨#[68]⟩) (h0 : reg d = true) (h1 : (s == 0) = true) (h2 : (t == 0) = false) :
    Calls Try.prog 14 #[.agg #[.int .i64 op, .int .i64 d, .int .i64 s, .int .i64 t, .int .i64 mb, .int .i64 mi, .int .i64 ms, .int .i64 md, .int .i64 imm]] w fun e w' => e = .returned (.int .i64 2) ∧ Below w.heap.size w w' := by
  have B1 : ∀ o, Below w.heap.size w (w.alloc o) := fun o => (Below.refl _ _).alloc (Nat.le_refl _) o
  have c68 : hasC ⟨#[68]⟩ 68 = true := by decide +kernel
  have c83 : hasC ⟨#[68]⟩ 83 = false := by decide +kernel
  have c84 : hasC ⟨#[68]⟩ 84 = false := by decide +kernel
  have c77 : hasC ⟨#[68]⟩ 77 = false := by decide +kernel
  have c105 : hasC ⟨#[68]⟩ 105 = false := by decide +kernel
  have c98 : hasC ⟨#[68]⟩ 98 = false := by decide +kernel
  have c73 : hasC ⟨#[68]⟩ 73 = false := by decide +kernel
  go_enter Try.func14, Try.ntmps14
  go_wp2_with (first | (go_at_call 16; refine (form_any _ _).mono ?_; rw [hf]; rintro e w' ⟨rfl, rfl⟩) | (go_at_call 15; refine (rhas_any _ _ _ (by decide)).mono ?_; (first | rw [c68] | rw [c83] | rw [c84] | rw [c77] | rw [c105] | rw [c98] | rw [c73]); rintro e w' ⟨rfl, rfl⟩) | (go_at_call 34; refine (rregister_any _ _).mono ?_; (first | rw [h0]); rintro e w' ⟨rfl, rfl⟩))
  go_ret
  first | exact ⟨rfl, B1 _⟩ | exact ⟨rfl, (B1 _).trans (hb1.mono (by simp))⟩
set_option maxRecDepth 100000 in
set_option maxHeartbeats 2000000 in
theorem rcheck_D_3 (op d s t mb mi ms md imm : Int) (w : World) (hf : formB op = ⟨#[68]⟩) (h0 : reg d = true) (h1 : (s == 0) = true) (h2 : (t == 0) = true) (h3 : memZ mb mi ms md = false) :
    Calls Try.prog 14 #[.agg #[.int .i64 op, .int .i64 d, .int .i64 s, .int .i64 t, .int .i64 mb, .int .i64 mi, .int .i64 ms, .int .i64 md, .int .i64 imm]] w fun e w' => e = .returned (.int .i64 2) ∧ Below w.heap.size w w' := by
  have B1 : ∀ o, Below w.heap.size w (w.alloc o) := fun o => (Below.refl _ _).alloc (Nat.le_refl _) o
  have hne := fun w => mem_eql mb mi ms md w
  rw [h3] at hne
  have c68 : hasC ⟨#[68]⟩ 68 = true := by decide +kernel
  have c83 : hasC ⟨#[68]⟩ 83 = false := by decide +kernel
  have c84 : hasC ⟨#[68]⟩ 84 = false := by decide +kernel
  have c77 : hasC ⟨#[68]⟩ 77 = false := by decide +kernel
  have c105 : hasC ⟨#[68]⟩ 105 = false := by decide +kernel
  have c98 : hasC ⟨#[68]⟩ 98 = false := by decide +kernel
  have c73 : hasC ⟨#[68]⟩ 73 = false := by decide +kernel
  go_enter Try.func14, Try.ntmps14
  go_wp2_with (first | (go_at_call 16; refine (form_any _ _).mono ?_; rw [hf]; rintro e w' ⟨rfl, rfl⟩) | (go_at_call 15; refine (rhas_any _ _ _ (by decide)).mono ?_; (first | rw [c68] | rw [c83] | rw [c84] | rw [c77] | rw [c105] | rw [c98] | rw [c73]); rintro e w' ⟨rfl, rfl⟩) | (go_at_call 34; refine (rregister_any _ _).mono ?_; (first | rw [h0]); rintro e w' ⟨rfl, rfl⟩))
  go_ret
  first | exact ⟨rfl, B1 _⟩ | exact ⟨rfl, (B1 _).trans (hb1.mono (by simp))⟩
set_option maxRecDepth 100000 in
set_option maxHeartbeats 2000000 in
theorem rcheck_D_4 (op d s t mb mi ms md imm : Int) (w : World) (hf : formB op = ⟨#[68]⟩) (h0 : reg d = true) (h1 : (s == 0) = true) (h2 : (t == 0) = true) (h3 : memZ mb mi ms md = true) (h4 : (imm == 0) = false) :
    Calls Try.prog 14 #[.agg #[.int .i64 op, .int .i64 d, .int .i64 s, .int .i64 t, .int .i64 mb, .int .i64 mi, .int .i64 ms, .int .i64 md, .int .i64 imm]] w fun e w' => e = .returned (.int .i64 2) ∧ Below w.heap.size w w' := by
  have B1 : ∀ o, Below w.heap.size w (w.alloc o) := fun o => (Below.refl _ _).alloc (Nat.le_refl _) o
  have hne := fun w => mem_eql mb mi ms md w
  rw [h3] at hne
  have c68 : hasC ⟨#[68]⟩ 68 = true := by decide +kernel
  have c83 : hasC ⟨#[68]⟩ 83 = false := by decide +kernel
  have c84 : hasC ⟨#[68]⟩ 84 = false := by decide +kernel
  have c77 : hasC ⟨#[68]⟩ 77 = false := by decide +kernel
  have c105 : hasC ⟨#[68]⟩ 105 = false := by decide +kernel
  have c98 : hasC ⟨#[68]⟩ 98 = false := by decide +kernel
  have c73 : hasC ⟨#[68]⟩ 73 = false := by decide +kernel
  go_enter Try.func14, Try.ntmps14
  go_wp2_with (first | (go_at_call 16; refine (form_any _ _).mono ?_; rw [hf]; rintro e w' ⟨rfl, rfl⟩) | (go_at_call 15; refine (rhas_any _ _ _ (by decide)).mono ?_; (first | rw [c68] | rw [c83] | rw [c84] | rw [c77] | rw [c105] | rw [c98] | rw [c73]); rintro e w' ⟨rfl, rfl⟩) | (go_at_call 34; refine (rregister_any _ _).mono ?_; (first | rw [h0]); rintro e w' ⟨rfl, rfl⟩))
  go_ret
  first | exact ⟨rfl, B1 _⟩ | exact ⟨rfl, (B1 _).trans (hb1.mono (by simp))⟩
set_option maxRecDepth 100000 in
set_option maxHeartbeats 2000000 in
theorem rcheck_D_5 (op d s t mb mi ms md imm : Int) (w : World) (hf : formB op = ⟨#[68]⟩) (h0 : reg d = true) (h1 : (s == 0) = true) (h2 : (t == 0) = true) (h3 : memZ mb mi ms md = true) (h4 : (imm == 0) = true) :
    Calls Try.prog 14 #[.agg #[.int .i64 op, .int .i64 d, .int .i64 s, .int .i64 t, .int .i64 mb, .int .i64 mi, .int .i64 ms, .int .i64 md, .int .i64 imm]] w fun e w' => e = .returned (.int .i64 0) ∧ Below w.heap.size w w' := by
  have B1 : ∀ o, Below w.heap.size w (w.alloc o) := fun o => (Below.refl _ _).alloc (Nat.le_refl _) o
  have hne := fun w => mem_eql mb mi ms md w
  rw [h3] at hne
  have c68 : hasC ⟨#[68]⟩ 68 = true := by decide +kernel
  have c83 : hasC ⟨#[68]⟩ 83 = false := by decide +kernel
  have c84 : hasC ⟨#[68]⟩ 84 = false := by decide +kernel
  have c77 : hasC ⟨#[68]⟩ 77 = false := by decide +kernel
  have c105 : hasC ⟨#[68]⟩ 105 = false := by decide +kernel
  have c98 : hasC ⟨#[68]⟩ 98 = false := by decide +kernel
  have c73 : hasC ⟨#[68]⟩ 73 = false := by decide +kernel
  go_enter Try.func14, Try.ntmps14
  go_wp2_with (first | (go_at_call 16; refine (form_any _ _).mono ?_; rw [hf]; rintro e w' ⟨rfl, rfl⟩) | (go_at_call 15; refine (rhas_any _ _ _ (by decide)).mono ?_; (first | rw [c68] | rw [c83] | rw [c84] | rw [c77] | rw [c105] | rw [c98] | rw [c73]); rintro e w' ⟨rfl, rfl⟩) | (go_at_call 34; refine (rregister_any _ _).mono ?_; (first | rw [h0]); rintro e w' ⟨rfl, rfl⟩))
  go_ret
  first | exact ⟨rfl, B1 _⟩ | exact ⟨rfl, (B1 _).trans (hb1.mono (by simp))⟩
theorem rcheck_D (op d s t mb mi ms md imm : Int) (w : World) (hf : formB op = ⟨#[68]⟩) :
    Calls Try.prog 14 #[.agg #[.int .i64 op, .int .i64 d, .int .i64 s, .int .i64 t, .int .i64 mb, .int .i64 mi, .int .i64 ms, .int .i64 md, .int .i64 imm]] w fun e w' => e = .returned (.int .i64 (errOf (reg d && (s == 0) && (t == 0) && memZ mb mi ms md && (imm == 0)))) ∧ Below w.heap.size w w' := by
  cases h0 : reg d
  · have e : errOf (reg d && (s == 0) && (t == 0) && memZ mb mi ms md && (imm == 0)) = 2 := by simp [errOf, h0]
    rw [h0] at e
    exact rcheck_D_0 op d s t mb mi ms md imm w hf h0
  cases h1 : (s == 0)
  · have e : errOf (reg d && (s == 0) && (t == 0) && memZ mb mi ms md && (imm == 0)) = 2 := by simp [errOf, h0, h1]
    simp only [h0] at e; rw [h1] at e
    exact rcheck_D_1 op d s t mb mi ms md imm w hf h0 h1
  cases h2 : (t == 0)
  · have e : errOf (reg d && (s == 0) && (t == 0) && memZ mb mi ms md && (imm == 0)) = 2 := by simp [errOf, h0, h1, h2]
    simp only [h0, h1] at e; rw [h2] at e
    exact rcheck_D_2 op d s t mb mi ms md imm w hf h0 h1 h2
  cases h3 : memZ mb mi ms md
  · have e : errOf (reg d && (s == 0) && (t == 0) && memZ mb mi ms md && (imm == 0)) = 2 := by simp [errOf, h0, h1, h2, h3]
    simp only [h0, h1, h2] at e; rw [h3] at e
    exact rcheck_D_3 op d s t mb mi ms md imm w hf h0 h1 h2 h3
  cases h4 : (imm == 0)
  · have e : errOf (reg d && (s == 0) && (t == 0) && memZ mb mi ms md && (imm == 0)) = 2 := by simp [errOf, h0, h1, h2, h3, h4]
    simp only [h0, h1, h2, h3] at e; rw [h4] at e
    exact rcheck_D_4 op d s t mb mi ms md imm w hf h0 h1 h2 h3 h4
  exact rcheck_D_5 op d s t mb mi ms md imm w hf h0 h1 h2 h3 h4
set_option maxRecDepth 100000 in
set_option maxHeartbeats 2000000 in
theorem rcheck_Db_0 (op d s t mb mi ms md imm : Int) (w : World) (hf : formB op = ⟨#[68, 98]⟩) (h0 : reg d = false) :
    Calls Try.prog 14 #[.agg #[.int .i64 op, .int .i64 d, .int .i64 s, .int .i64 t, .int .i64 mb, .int .i64 mi, .int .i64 ms, .int .i64 md, .int .i64 imm]] w fun e w' => e = .returned (.int .i64 2) ∧ Below w.heap.size w w' := by
  have B1 : ∀ o, Below w.heap.size w (w.alloc o) := fun o => (Below.refl _ _).alloc (Nat.le_refl _) o
  have c68 : hasC ⟨#[68, 98]⟩ 68 = true := by decide +kernel
  have c83 : hasC ⟨#[68, 98]⟩ 83 = false := by decide +kernel
  have c84 : hasC ⟨#[68, 98]⟩ 84 = false := by decide +kernel
  have c77 : hasC ⟨#[68, 98]⟩ 77 = false := by decide +kernel
  have c105 : hasC ⟨#[68, 98]⟩ 105 = false := by decide +kernel
  have c98 : hasC ⟨#[68, 98]⟩ 98 = true := by decide +kernel
  have c73 : hasC ⟨#[68, 98]⟩ 73 = false := by decide +kernel
  go_enter Try.func14, Try.ntmps14
  go_wp2_with (first | (go_at_call 16; refine (form_any _ _).mono ?_; rw [hf]; rintro e w' ⟨rfl, rfl⟩) | (go_at_call 15; refine (rhas_any _ _ _ (by decide)).mono ?_; (first | rw [c68] | rw [c83] | rw [c84] | rw [c77] | rw [c105] | rw [c98] | rw [c73]); rintro e w' ⟨rfl, rfl⟩) | (go_at_call 34; refine (rregister_any _ _).mono ?_; (first | rw [h0]); rintro e w' ⟨rfl, rfl⟩))
  go_ret
  first | exact ⟨rfl, B1 _⟩ | exact ⟨rfl, (B1 _).trans (hb1.mono (by simp))⟩
set_option maxRecDepth 100000 in
set_option maxHeartbeats 2000000 in
theorem rcheck_Db_1 (op d s t mb mi ms md imm : Int) (w : World) (hf : formB op = ⟨#[68, 98]⟩) (h0 : reg d = true) (h1 : (s == 0) = false) :
    Calls Try.prog 14 #[.agg #[.int .i64 op, .int .i64 d, .int .i64 s, .int .i64 t, .int .i64 mb, .int .i64 mi, .int .i64 ms, .int .i64 md, .int .i64 imm]] w fun e w' => e = .returned (.int .i64 2) ∧ Below w.heap.size w w' := by
  have B1 : ∀ o, Below w.heap.size w (w.alloc o) := fun o => (Below.refl _ _).alloc (Nat.le_refl _) o
  have c68 : hasC ⟨#[68, 98]⟩ 68 = true := by decide +kernel
  have c83 : hasC ⟨#[68, 98]⟩ 83 = false := by decide +kernel
  have c84 : hasC ⟨#[68, 98]⟩ 84 = false := by decide +kernel
  have c77 : hasC ⟨#[68, 98]⟩ 77 = false := by decide +kernel
  have c105 : hasC ⟨#[68, 98]⟩ 105 = false := by decide +kernel
  have c98 : hasC ⟨#[68, 98]⟩ 98 = true := by decide +kernel
  have c73 : hasC ⟨#[68, 98]⟩ 73 = false := by decide +kernel
  go_enter Try.func14, Try.ntmps14
  go_wp2_with (first | (go_at_call 16; refine (form_any _ _).mono ?_; rw [hf]; rintro e w' ⟨rfl, rfl⟩) | (go_at_call 15; refine (rhas_any _ _ _ (by decide)).mono ?_; (first | rw [c68] | rw [c83] | rw [c84] | rw [c77] | rw [c105] | rw [c98] | rw [c73]); rintro e w' ⟨rfl, rfl⟩) | (go_at_call 34; refine (rregister_any _ _).mono ?_; (first | rw [h0]); rintro e w' ⟨rfl, rfl⟩))
  go_ret
  first | exact ⟨rfl, B1 _⟩ | exact ⟨rfl, (B1 _).trans (hb1.mono (by simp))⟩
set_option maxRecDepth 100000 in
set_option maxHeartbeats 2000000 in
theorem rcheck_Db_2 (op d s t mb mi ms md imm : Int) (w : World) (hf : formB op = ⟨#[68, 98]⟩) (h0 : reg d = true) (h1 : (s == 0) = true) (h2 : (t == 0) = false) :
    Calls Try.prog 14 #[.agg #[.int .i64 op, .int .i64 d, .int .i64 s, .int .i64 t, .int .i64 mb, .int .i64 mi, .int .i64 ms, .int .i64 md, .int .i64 imm]] w fun e w' => e = .returned (.int .i64 2) ∧ Below w.heap.size w w' := by
  have B1 : ∀ o, Below w.heap.size w (w.alloc o) := fun o => (Below.refl _ _).alloc (Nat.le_refl _) o
  have c68 : hasC ⟨#[68, 98]⟩ 68 = true := by decide +kernel
  have c83 : hasC ⟨#[68, 98]⟩ 83 = false := by decide +kernel
  have c84 : hasC ⟨#[68, 98]⟩ 84 = false := by decide +kernel
  have c77 : hasC ⟨#[68, 98]⟩ 77 = false := by decide +kernel
  have c105 : hasC ⟨#[68, 98]⟩ 105 = false := by decide +kernel
  have c98 : hasC ⟨#[68, 98]⟩ 98 = true := by decide +kernel
  have c73 : hasC ⟨#[68, 98]⟩ 73 = false := by decide +kernel
  go_enter Try.func14, Try.ntmps14
  go_wp2_with (first | (go_at_call 16; refine (form_any _ _).mono ?_; rw [hf]; rintro e w' ⟨rfl, rfl⟩) | (go_at_call 15; refine (rhas_any _ _ _ (by decide)).mono ?_; (first | rw [c68] | rw [c83] | rw [c84] | rw [c77] | rw [c105] | rw [c98] | rw [c73]); rintro e w' ⟨rfl, rfl⟩) | (go_at_call 34; refine (rregister_any _ _).mono ?_; (first | rw [h0]); rintro e w' ⟨rfl, rfl⟩))
  go_ret
  first | exact ⟨rfl, B1 _⟩ | exact ⟨rfl, (B1 _).trans (hb1.mono (by simp))⟩
set_option maxRecDepth 100000 in
set_option maxHeartbeats 2000000 in
theorem rcheck_Db_3 (op d s t mb mi ms md imm : Int) (w : World) (hf : formB op = ⟨#[68, 98]⟩) (h0 : reg d = true) (h1 : (s == 0) = true) (h2 : (t == 0) = true) (h3 : memZ mb mi ms md = false) :
    Calls Try.prog 14 #[.agg #[.int .i64 op, .int .i64 d, .int .i64 s, .int .i64 t, .int .i64 mb, .int .i64 mi, .int .i64 ms, .int .i64 md, .int .i64 imm]] w fun e w' => e = .returned (.int .i64 2) ∧ Below w.heap.size w w' := by
  have B1 : ∀ o, Below w.heap.size w (w.alloc o) := fun o => (Below.refl _ _).alloc (Nat.le_refl _) o
  have hne := fun w => mem_eql mb mi ms md w
  rw [h3] at hne
  have c68 : hasC ⟨#[68, 98]⟩ 68 = true := by decide +kernel
  have c83 : hasC ⟨#[68, 98]⟩ 83 = false := by decide +kernel
  have c84 : hasC ⟨#[68, 98]⟩ 84 = false := by decide +kernel
  have c77 : hasC ⟨#[68, 98]⟩ 77 = false := by decide +kernel
  have c105 : hasC ⟨#[68, 98]⟩ 105 = false := by decide +kernel
  have c98 : hasC ⟨#[68, 98]⟩ 98 = true := by decide +kernel
  have c73 : hasC ⟨#[68, 98]⟩ 73 = false := by decide +kernel
  go_enter Try.func14, Try.ntmps14
  go_wp2_with (first | (go_at_call 16; refine (form_any _ _).mono ?_; rw [hf]; rintro e w' ⟨rfl, rfl⟩) | (go_at_call 15; refine (rhas_any _ _ _ (by decide)).mono ?_; (first | rw [c68] | rw [c83] | rw [c84] | rw [c77] | rw [c105] | rw [c98] | rw [c73]); rintro e w' ⟨rfl, rfl⟩) | (go_at_call 34; refine (rregister_any _ _).mono ?_; (first | rw [h0]); rintro e w' ⟨rfl, rfl⟩))
  go_ret
  first | exact ⟨rfl, B1 _⟩ | exact ⟨rfl, (B1 _).trans (hb1.mono (by simp))⟩
set_option maxRecDepth 100000 in
set_option maxHeartbeats 2000000 in
theorem rcheck_Db_4 (op d s t mb mi ms md imm : Int) (w : World) (hf : formB op = ⟨#[68, 98]⟩) (h0 : reg d = true) (h1 : (s == 0) = true) (h2 : (t == 0) = true) (h3 : memZ mb mi ms md = true) (h4 : decide (1 ≤ imm) = false) :
    Calls Try.prog 14 #[.agg #[.int .i64 op, .int .i64 d, .int .i64 s, .int .i64 t, .int .i64 mb, .int .i64 mi, .int .i64 ms, .int .i64 md, .int .i64 imm]] w fun e w' => e = .returned (.int .i64 2) ∧ Below w.heap.size w w' := by
  have B1 : ∀ o, Below w.heap.size w (w.alloc o) := fun o => (Below.refl _ _).alloc (Nat.le_refl _) o
  have hne := fun w => mem_eql mb mi ms md w
  rw [h3] at hne
  have c68 : hasC ⟨#[68, 98]⟩ 68 = true := by decide +kernel
  have c83 : hasC ⟨#[68, 98]⟩ 83 = false := by decide +kernel
  have c84 : hasC ⟨#[68, 98]⟩ 84 = false := by decide +kernel
  have c77 : hasC ⟨#[68, 98]⟩ 77 = false := by decide +kernel
  have c105 : hasC ⟨#[68, 98]⟩ 105 = false := by decide +kernel
  have c98 : hasC ⟨#[68, 98]⟩ 98 = true := by decide +kernel
  have c73 : hasC ⟨#[68, 98]⟩ 73 = false := by decide +kernel
  go_enter Try.func14, Try.ntmps14
  go_wp2_with (first | (go_at_call 16; refine (form_any _ _).mono ?_; rw [hf]; rintro e w' ⟨rfl, rfl⟩) | (go_at_call 15; refine (rhas_any _ _ _ (by decide)).mono ?_; (first | rw [c68] | rw [c83] | rw [c84] | rw [c77] | rw [c105] | rw [c98] | rw [c73]); rintro e w' ⟨rfl, rfl⟩) | (go_at_call 34; refine (rregister_any _ _).mono ?_; (first | rw [h0]); rintro e w' ⟨rfl, rfl⟩))
  go_ret
  first | exact ⟨rfl, B1 _⟩ | exact ⟨rfl, (B1 _).trans (hb1.mono (by simp))⟩
set_option maxRecDepth 100000 in
set_option maxHeartbeats 2000000 in
theorem rcheck_Db_5 (op d s t mb mi ms md imm : Int) (w : World) (hf : formB op = ⟨#[68, 98]⟩) (h0 : reg d = true) (h1 : (s == 0) = true) (h2 : (t == 0) = true) (h3 : memZ mb mi ms md = true) (h4 : decide (1 ≤ imm) = true) (h5 : decide (imm ≤ 63) = false) :
    Calls Try.prog 14 #[.agg #[.int .i64 op, .int .i64 d, .int .i64 s, .int .i64 t, .int .i64 mb, .int .i64 mi, .int .i64 ms, .int .i64 md, .int .i64 imm]] w fun e w' => e = .returned (.int .i64 2) ∧ Below w.heap.size w w' := by
  have B1 : ∀ o, Below w.heap.size w (w.alloc o) := fun o => (Below.refl _ _).alloc (Nat.le_refl _) o
  have hne := fun w => mem_eql mb mi ms md w
  rw [h3] at hne
  have c68 : hasC ⟨#[68, 98]⟩ 68 = true := by decide +kernel
  have c83 : hasC ⟨#[68, 98]⟩ 83 = false := by decide +kernel
  have c84 : hasC ⟨#[68, 98]⟩ 84 = false := by decide +kernel
  have c77 : hasC ⟨#[68, 98]⟩ 77 = false := by decide +kernel
  have c105 : hasC ⟨#[68, 98]⟩ 105 = false := by decide +kernel
  have c98 : hasC ⟨#[68, 98]⟩ 98 = true := by decide +kernel
  have c73 : hasC ⟨#[68, 98]⟩ 73 = false := by decide +kernel
  go_enter Try.func14, Try.ntmps14
  go_wp2_with (first | (go_at_call 16; refine (form_any _ _).mono ?_; rw [hf]; rintro e w' ⟨rfl, rfl⟩) | (go_at_call 15; refine (rhas_any _ _ _ (by decide)).mono ?_; (first | rw [c68] | rw [c83] | rw [c84] | rw [c77] | rw [c105] | rw [c98] | rw [c73]); rintro e w' ⟨rfl, rfl⟩) | (go_at_call 34; refine (rregister_any _ _).mono ?_; (first | rw [h0]); rintro e w' ⟨rfl, rfl⟩))
  go_ret
  first | exact ⟨rfl, B1 _⟩ | exact ⟨rfl, (B1 _).trans (hb1.mono (by simp))⟩
set_option maxRecDepth 100000 in
set_option maxHeartbeats 2000000 in
theorem rcheck_Db_6 (op d s t mb mi ms md imm : Int) (w : World) (hf : formB op = ⟨#[68, 98]⟩) (h0 : reg d = true) (h1 : (s == 0) = true) (h2 : (t == 0) = true) (h3 : memZ mb mi ms md = true) (h4 : decide (1 ≤ imm) = true) (h5 : decide (imm ≤ 63) = true) :
    Calls Try.prog 14 #[.agg #[.int .i64 op, .int .i64 d, .int .i64 s, .int .i64 t, .int .i64 mb, .int .i64 mi, .int .i64 ms, .int .i64 md, .int .i64 imm]] w fun e w' => e = .returned (.int .i64 0) ∧ Below w.heap.size w w' := by
  have B1 : ∀ o, Below w.heap.size w (w.alloc o) := fun o => (Below.refl _ _).alloc (Nat.le_refl _) o
  have hne := fun w => mem_eql mb mi ms md w
  rw [h3] at hne
  have c68 : hasC ⟨#[68, 98]⟩ 68 = true := by decide +kernel
  have c83 : hasC ⟨#[68, 98]⟩ 83 = false := by decide +kernel
  have c84 : hasC ⟨#[68, 98]⟩ 84 = false := by decide +kernel
  have c77 : hasC ⟨#[68, 98]⟩ 77 = false := by decide +kernel
  have c105 : hasC ⟨#[68, 98]⟩ 105 = false := by decide +kernel
  have c98 : hasC ⟨#[68, 98]⟩ 98 = true := by decide +kernel
  have c73 : hasC ⟨#[68, 98]⟩ 73 = false := by decide +kernel
  go_enter Try.func14, Try.ntmps14
  go_wp2_with (first | (go_at_call 16; refine (form_any _ _).mono ?_; rw [hf]; rintro e w' ⟨rfl, rfl⟩) | (go_at_call 15; refine (rhas_any _ _ _ (by decide)).mono ?_; (first | rw [c68] | rw [c83] | rw [c84] | rw [c77] | rw [c105] | rw [c98] | rw [c73]); rintro e w' ⟨rfl, rfl⟩) | (go_at_call 34; refine (rregister_any _ _).mono ?_; (first | rw [h0]); rintro e w' ⟨rfl, rfl⟩))
  go_ret
  first | exact ⟨rfl, B1 _⟩ | exact ⟨rfl, (B1 _).trans (hb1.mono (by simp))⟩
theorem rcheck_Db (op d s t mb mi ms md imm : Int) (w : World) (hf : formB op = ⟨#[68, 98]⟩) :
    Calls Try.prog 14 #[.agg #[.int .i64 op, .int .i64 d, .int .i64 s, .int .i64 t, .int .i64 mb, .int .i64 mi, .int .i64 ms, .int .i64 md, .int .i64 imm]] w fun e w' => e = .returned (.int .i64 (errOf (reg d && (s == 0) && (t == 0) && memZ mb mi ms md && decide (1 ≤ imm) && decide (imm ≤ 63)))) ∧ Below w.heap.size w w' := by
  cases h0 : reg d
  · have e : errOf (reg d && (s == 0) && (t == 0) && memZ mb mi ms md && decide (1 ≤ imm) && decide (imm ≤ 63)) = 2 := by simp [errOf, h0]
    rw [h0] at e
    exact rcheck_Db_0 op d s t mb mi ms md imm w hf h0
  cases h1 : (s == 0)
  · have e : errOf (reg d && (s == 0) && (t == 0) && memZ mb mi ms md && decide (1 ≤ imm) && decide (imm ≤ 63)) = 2 := by simp [errOf, h0, h1]
    simp only [h0] at e; rw [h1] at e
    exact rcheck_Db_1 op d s t mb mi ms md imm w hf h0 h1
  cases h2 : (t == 0)
  · have e : errOf (reg d && (s == 0) && (t == 0) && memZ mb mi ms md && decide (1 ≤ imm) && decide (imm ≤ 63)) = 2 := by simp [errOf, h0, h1, h2]
    simp only [h0, h1] at e; rw [h2] at e
    exact rcheck_Db_2 op d s t mb mi ms md imm w hf h0 h1 h2
  cases h3 : memZ mb mi ms md
  · have e : errOf (reg d && (s == 0) && (t == 0) && memZ mb mi ms md && decide (1 ≤ imm) && decide (imm ≤ 63)) = 2 := by simp [errOf, h0, h1, h2, h3]
    simp only [h0, h1, h2] at e; rw [h3] at e
    exact rcheck_Db_3 op d s t mb mi ms md imm w hf h0 h1 h2 h3
  cases h4 : decide (1 ≤ imm)
  · have e : errOf (reg d && (s == 0) && (t == 0) && memZ mb mi ms md && decide (1 ≤ imm) && decide (imm ≤ 63)) = 2 := by simp [errOf, h0, h1, h2, h3, h4]
    simp only [h0, h1, h2, h3] at e; rw [h4] at e
    exact rcheck_Db_4 op d s t mb mi ms md imm w hf h0 h1 h2 h3 h4
  cases h5 : decide (imm ≤ 63)
  · have e : errOf (reg d && (s == 0) && (t == 0) && memZ mb mi ms md && decide (1 ≤ imm) && decide (imm ≤ 63)) = 2 := by simp [errOf, h0, h1, h2, h3, h4, h5]
    simp only [h0, h1, h2, h3, h4] at e; rw [h5] at e
    exact rcheck_Db_5 op d s t mb mi ms md imm w hf h0 h1 h2 h3 h4 h5
  exact rcheck_Db_6 op d s t mb mi ms md imm w hf h0 h1 h2 h3 h4 h5
set_option maxRecDepth 100000 in
set_option maxHeartbeats 2000000 in
theorem rcheck_S_0 (op d s t mb mi ms md imm : Int) (w : World) (hf : formB op = ⟨#[83]⟩) (h0 : (d == 0) = false) :
    Calls Try.prog 14 #[.agg #[.int .i64 op, .int .i64 d, .int .i64 s, .int .i64 t, .int .i64 mb, .int .i64 mi, .int .i64 ms, .int .i64 md, .int .i64 imm]] w fun e w' => e = .returned (.int .i64 2) ∧ Below w.heap.size w w' := by
  have B1 : ∀ o, Below w.heap.size w (w.alloc o) := fun o => (Below.refl _ _).alloc (Nat.le_refl _) o
  have c68 : hasC ⟨#[83]⟩ 68 = false := by decide +kernel
  have c83 : hasC ⟨#[83]⟩ 83 = true := by decide +kernel
  have c84 : hasC ⟨#[83]⟩ 84 = false := by decide +kernel
  have c77 : hasC ⟨#[83]⟩ 77 = false := by decide +kernel
  have c105 : hasC ⟨#[83]⟩ 105 = false := by decide +kernel
  have c98 : hasC ⟨#[83]⟩ 98 = false := by decide +kernel
  have c73 : hasC ⟨#[83]⟩ 73 = false := by decide +kernel
  go_enter Try.func14, Try.ntmps14
  go_wp2_with (first | (go_at_call 16; refine (form_any _ _).mono ?_; rw [hf]; rintro e w' ⟨rfl, rfl⟩) | (go_at_call 15; refine (rhas_any _ _ _ (by decide)).mono ?_; (first | rw [c68] | rw [c83] | rw [c84] | rw [c77] | rw [c105] | rw [c98] | rw [c73]); rintro e w' ⟨rfl, rfl⟩))
  go_ret
  first | exact ⟨rfl, B1 _⟩ | exact ⟨rfl, (B1 _).trans (hb1.mono (by simp))⟩
set_option maxRecDepth 100000 in
set_option maxHeartbeats 2000000 in
theorem rcheck_S_1 (op d s t mb mi ms md imm : Int) (w : World) (hf : formB op = ⟨#[83]⟩) (h0 : (d == 0) = true) (h1 : reg s = false) :
    Calls Try.prog 14 #[.agg #[.int .i64 op, .int .i64 d, .int .i64 s, .int .i64 t, .int .i64 mb, .int .i64 mi, .int .i64 ms, .int .i64 md, .int .i64 imm]] w fun e w' => e = .returned (.int .i64 2) ∧ Below w.heap.size w w' := by
  have B1 : ∀ o, Below w.heap.size w (w.alloc o) := fun o => (Below.refl _ _).alloc (Nat.le_refl _) o
  have c68 : hasC ⟨#[83]⟩ 68 = false := by decide +kernel
  have c83 : hasC ⟨#[83]⟩ 83 = true := by decide +kernel
  have c84 : hasC ⟨#[83]⟩ 84 = false := by decide +kernel
  have c77 : hasC ⟨#[83]⟩ 77 = false := by decide +kernel
  have c105 : hasC ⟨#[83]⟩ 105 = false := by decide +kernel
  have c98 : hasC ⟨#[83]⟩ 98 = false := by decide +kernel
  have c73 : hasC ⟨#[83]⟩ 73 = false := by decide +kernel
  go_enter Try.func14, Try.ntmps14
  go_wp2_with (first | (go_at_call 16; refine (form_any _ _).mono ?_; rw [hf]; rintro e w' ⟨rfl, rfl⟩) | (go_at_call 15; refine (rhas_any _ _ _ (by decide)).mono ?_; (first | rw [c68] | rw [c83] | rw [c84] | rw [c77] | rw [c105] | rw [c98] | rw [c73]); rintro e w' ⟨rfl, rfl⟩) | (go_at_call 34; refine (rregister_any _ _).mono ?_; (first | rw [h1]); rintro e w' ⟨rfl, rfl⟩))
  go_ret
  first | exact ⟨rfl, B1 _⟩ | exact ⟨rfl, (B1 _).trans (hb1.mono (by simp))⟩
set_option maxRecDepth 100000 in
set_option maxHeartbeats 2000000 in
theorem rcheck_S_2 (op d s t mb mi ms md imm : Int) (w : World) (hf : formB op = ⟨#[83]⟩) (h0 : (d == 0) = true) (h1 : reg s = true) (h2 : (t == 0) = false) :
    Calls Try.prog 14 #[.agg #[.int .i64 op, .int .i64 d, .int .i64 s, .int .i64 t, .int .i64 mb, .int .i64 mi, .int .i64 ms, .int .i64 md, .int .i64 imm]] w fun e w' => e = .returned (.int .i64 2) ∧ Below w.heap.size w w' := by
  have B1 : ∀ o, Below w.heap.size w (w.alloc o) := fun o => (Below.refl _ _).alloc (Nat.le_refl _) o
  have c68 : hasC ⟨#[83]⟩ 68 = false := by decide +kernel
  have c83 : hasC ⟨#[83]⟩ 83 = true := by decide +kernel
  have c84 : hasC ⟨#[83]⟩ 84 = false := by decide +kernel
  have c77 : hasC ⟨#[83]⟩ 77 = false := by decide +kernel
  have c105 : hasC ⟨#[83]⟩ 105 = false := by decide +kernel
  have c98 : hasC ⟨#[83]⟩ 98 = false := by decide +kernel
  have c73 : hasC ⟨#[83]⟩ 73 = false := by decide +kernel
  go_enter Try.func14, Try.ntmps14
  go_wp2_with (first | (go_at_call 16; refine (form_any _ _).mono ?_; rw [hf]; rintro e w' ⟨rfl, rfl⟩) | (go_at_call 15; refine (rhas_any _ _ _ (by decide)).mono ?_; (first | rw [c68] | rw [c83] | rw [c84] | rw [c77] | rw [c105] | rw [c98] | rw [c73]); rintro e w' ⟨rfl, rfl⟩) | (go_at_call 34; refine (rregister_any _ _).mono ?_; (first | rw [h1]); rintro e w' ⟨rfl, rfl⟩))
  go_ret
  first | exact ⟨rfl, B1 _⟩ | exact ⟨rfl, (B1 _).trans (hb1.mono (by simp))⟩
set_option maxRecDepth 100000 in
set_option maxHeartbeats 2000000 in
theorem rcheck_S_3 (op d s t mb mi ms md imm : Int) (w : World) (hf : formB op = ⟨#[83]⟩) (h0 : (d == 0) = true) (h1 : reg s = true) (h2 : (t == 0) = true) (h3 : memZ mb mi ms md = false) :
    Calls Try.prog 14 #[.agg #[.int .i64 op, .int .i64 d, .int .i64 s, .int .i64 t, .int .i64 mb, .int .i64 mi, .int .i64 ms, .int .i64 md, .int .i64 imm]] w fun e w' => e = .returned (.int .i64 2) ∧ Below w.heap.size w w' := by
  have B1 : ∀ o, Below w.heap.size w (w.alloc o) := fun o => (Below.refl _ _).alloc (Nat.le_refl _) o
  have hne := fun w => mem_eql mb mi ms md w
  rw [h3] at hne
  have c68 : hasC ⟨#[83]⟩ 68 = false := by decide +kernel
  have c83 : hasC ⟨#[83]⟩ 83 = true := by decide +kernel
  have c84 : hasC ⟨#[83]⟩ 84 = false := by decide +kernel
  have c77 : hasC ⟨#[83]⟩ 77 = false := by decide +kernel
  have c105 : hasC ⟨#[83]⟩ 105 = false := by decide +kernel
  have c98 : hasC ⟨#[83]⟩ 98 = false := by decide +kernel
  have c73 : hasC ⟨#[83]⟩ 73 = false := by decide +kernel
  go_enter Try.func14, Try.ntmps14
  go_wp2_with (first | (go_at_call 16; refine (form_any _ _).mono ?_; rw [hf]; rintro e w' ⟨rfl, rfl⟩) | (go_at_call 15; refine (rhas_any _ _ _ (by decide)).mono ?_; (first | rw [c68] | rw [c83] | rw [c84] | rw [c77] | rw [c105] | rw [c98] | rw [c73]); rintro e w' ⟨rfl, rfl⟩) | (go_at_call 34; refine (rregister_any _ _).mono ?_; (first | rw [h1]); rintro e w' ⟨rfl, rfl⟩))
  go_ret
  first | exact ⟨rfl, B1 _⟩ | exact ⟨rfl, (B1 _).trans (hb1.mono (by simp))⟩
set_option maxRecDepth 100000 in
set_option maxHeartbeats 2000000 in
theorem rcheck_S_4 (op d s t mb mi ms md imm : Int) (w : World) (hf : formB op = ⟨#[83]⟩) (h0 : (d == 0) = true) (h1 : reg s = true) (h2 : (t == 0) = true) (h3 : memZ mb mi ms md = true) (h4 : (imm == 0) = false) :
    Calls Try.prog 14 #[.agg #[.int .i64 op, .int .i64 d, .int .i64 s, .int .i64 t, .int .i64 mb, .int .i64 mi, .int .i64 ms, .int .i64 md, .int .i64 imm]] w fun e w' => e = .returned (.int .i64 2) ∧ Below w.heap.size w w' := by
  have B1 : ∀ o, Below w.heap.size w (w.alloc o) := fun o => (Below.refl _ _).alloc (Nat.le_refl _) o
  have hne := fun w => mem_eql mb mi ms md w
  rw [h3] at hne
  have c68 : hasC ⟨#[83]⟩ 68 = false := by decide +kernel
  have c83 : hasC ⟨#[83]⟩ 83 = true := by decide +kernel
  have c84 : hasC ⟨#[83]⟩ 84 = false := by decide +kernel
  have c77 : hasC ⟨#[83]⟩ 77 = false := by decide +kernel
  have c105 : hasC ⟨#[83]⟩ 105 = false := by decide +kernel
  have c98 : hasC ⟨#[83]⟩ 98 = false := by decide +kernel
  have c73 : hasC ⟨#[83]⟩ 73 = false := by decide +kernel
  go_enter Try.func14, Try.ntmps14
  go_wp2_with (first | (go_at_call 16; refine (form_any _ _).mono ?_; rw [hf]; rintro e w' ⟨rfl, rfl⟩) | (go_at_call 15; refine (rhas_any _ _ _ (by decide)).mono ?_; (first | rw [c68] | rw [c83] | rw [c84] | rw [c77] | rw [c105] | rw [c98] | rw [c73]); rintro e w' ⟨rfl, rfl⟩) | (go_at_call 34; refine (rregister_any _ _).mono ?_; (first | rw [h1]); rintro e w' ⟨rfl, rfl⟩))
  go_ret
  first | exact ⟨rfl, B1 _⟩ | exact ⟨rfl, (B1 _).trans (hb1.mono (by simp))⟩
set_option maxRecDepth 100000 in
set_option maxHeartbeats 2000000 in
theorem rcheck_S_5 (op d s t mb mi ms md imm : Int) (w : World) (hf : formB op = ⟨#[83]⟩) (h0 : (d == 0) = true) (h1 : reg s = true) (h2 : (t == 0) = true) (h3 : memZ mb mi ms md = true) (h4 : (imm == 0) = true) :
    Calls Try.prog 14 #[.agg #[.int .i64 op, .int .i64 d, .int .i64 s, .int .i64 t, .int .i64 mb, .int .i64 mi, .int .i64 ms, .int .i64 md, .int .i64 imm]] w fun e w' => e = .returned (.int .i64 0) ∧ Below w.heap.size w w' := by
  have B1 : ∀ o, Below w.heap.size w (w.alloc o) := fun o => (Below.refl _ _).alloc (Nat.le_refl _) o
  have hne := fun w => mem_eql mb mi ms md w
  rw [h3] at hne
  have c68 : hasC ⟨#[83]⟩ 68 = false := by decide +kernel
  have c83 : hasC ⟨#[83]⟩ 83 = true := by decide +kernel
  have c84 : hasC ⟨#[83]⟩ 84 = false := by decide +kernel
  have c77 : hasC ⟨#[83]⟩ 77 = false := by decide +kernel
  have c105 : hasC ⟨#[83]⟩ 105 = false := by decide +kernel
  have c98 : hasC ⟨#[83]⟩ 98 = false := by decide +kernel
  have c73 : hasC ⟨#[83]⟩ 73 = false := by decide +kernel
  go_enter Try.func14, Try.ntmps14
  go_wp2_with (first | (go_at_call 16; refine (form_any _ _).mono ?_; rw [hf]; rintro e w' ⟨rfl, rfl⟩) | (go_at_call 15; refine (rhas_any _ _ _ (by decide)).mono ?_; (first | rw [c68] | rw [c83] | rw [c84] | rw [c77] | rw [c105] | rw [c98] | rw [c73]); rintro e w' ⟨rfl, rfl⟩) | (go_at_call 34; refine (rregister_any _ _).mono ?_; (first | rw [h1]); rintro e w' ⟨rfl, rfl⟩))
  go_ret
  first | exact ⟨rfl, B1 _⟩ | exact ⟨rfl, (B1 _).trans (hb1.mono (by simp))⟩
theorem rcheck_S (op d s t mb mi ms md imm : Int) (w : World) (hf : formB op = ⟨#[83]⟩) :
    Calls Try.prog 14 #[.agg #[.int .i64 op, .int .i64 d, .int .i64 s, .int .i64 t, .int .i64 mb, .int .i64 mi, .int .i64 ms, .int .i64 md, .int .i64 imm]] w fun e w' => e = .returned (.int .i64 (errOf ((d == 0) && reg s && (t == 0) && memZ mb mi ms md && (imm == 0)))) ∧ Below w.heap.size w w' := by
  cases h0 : (d == 0)
  · have e : errOf ((d == 0) && reg s && (t == 0) && memZ mb mi ms md && (imm == 0)) = 2 := by simp [errOf, h0]
    rw [h0] at e
    exact rcheck_S_0 op d s t mb mi ms md imm w hf h0
  cases h1 : reg s
  · have e : errOf ((d == 0) && reg s && (t == 0) && memZ mb mi ms md && (imm == 0)) = 2 := by simp [errOf, h0, h1]
    simp only [h0] at e; rw [h1] at e
    exact rcheck_S_1 op d s t mb mi ms md imm w hf h0 h1
  cases h2 : (t == 0)
  · have e : errOf ((d == 0) && reg s && (t == 0) && memZ mb mi ms md && (imm == 0)) = 2 := by simp [errOf, h0, h1, h2]
    simp only [h0, h1] at e; rw [h2] at e
    exact rcheck_S_2 op d s t mb mi ms md imm w hf h0 h1 h2
  cases h3 : memZ mb mi ms md
  · have e : errOf ((d == 0) && reg s && (t == 0) && memZ mb mi ms md && (imm == 0)) = 2 := by simp [errOf, h0, h1, h2, h3]
    simp only [h0, h1, h2] at e; rw [h3] at e
    exact rcheck_S_3 op d s t mb mi ms md imm w hf h0 h1 h2 h3
  cases h4 : (imm == 0)
  · have e : errOf ((d == 0) && reg s && (t == 0) && memZ mb mi ms md && (imm == 0)) = 2 := by simp [errOf, h0, h1, h2, h3, h4]
    simp only [h0, h1, h2, h3] at e; rw [h4] at e
    exact rcheck_S_4 op d s t mb mi ms md imm w hf h0 h1 h2 h3 h4
  exact rcheck_S_5 op d s t mb mi ms md imm w hf h0 h1 h2 h3 h4
end Go.Proofs.Ytakmpnmmcjnecaa
