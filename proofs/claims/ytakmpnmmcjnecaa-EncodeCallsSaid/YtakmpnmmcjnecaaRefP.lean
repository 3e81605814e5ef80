/- keysmithref05 (the document's answer for layer 5): place, Check. Conditions: numbers are numbers of 64 bits. -/
import Derived.Test.YtakmpnmmcjnecaaHas
namespace Go.Proofs.Ytakmpnmmcjnecaa
open Go.RowKit Calm

theorem rplace_a (mb mi ms md : Int) (w : World) (h0 : reg mb = false) :
    Calls Try.prog 35 #[.agg #[.int .i64 mb, .int .i64 mi, .int .i64 ms, .int .i64 md]] w fun e w' => e = .returned (.bool false) ∧ Below w.heap.size w w' := by
  have B1 : ∀ o, Below w.heap.size w (w.alloc o) := fun o => (Below.refl _ _).alloc (Nat.le_refl _) o
  go_enter Try.func35, Try.ntmps35
  go_wp2_with (first | (go_at_call 34; refine (rregister_any _ _).mono ?_; rintro e w' ⟨rfl, rfl⟩) | (go_at_call 36; refine (rsmall_any _ _).mono ?_; rintro e w' ⟨rfl, rfl⟩))
  go_ret
  exact ⟨rfl, B1 _⟩
theorem rplace_b (mb mi ms md : Int) (w : World) (h0 : reg mb = true) (h1 : smallB md = false) :
    Calls Try.prog 35 #[.agg #[.int .i64 mb, .int .i64 mi, .int .i64 ms, .int .i64 md]] w fun e w' => e = .returned (.bool false) ∧ Below w.heap.size w w' := by
  have B1 : ∀ o, Below w.heap.size w (w.alloc o) := fun o => (Below.refl _ _).alloc (Nat.le_refl _) o
  go_enter Try.func35, Try.ntmps35
  go_wp2_with (first | (go_at_call 34; refine (rregister_any _ _).mono ?_; rintro e w' ⟨rfl, rfl⟩) | (go_at_call 36; refine (rsmall_any _ _).mono ?_; rintro e w' ⟨rfl, rfl⟩))
  go_ret
  exact ⟨rfl, B1 _⟩
theorem rplace_c (mb mi ms md : Int) (w : World) (h0 : reg mb = true) (h1 : smallB md = true) (h2 : (mi == -1) = true) (h3 : (ms == 1) = true) :
    Calls Try.prog 35 #[.agg #[.int .i64 mb, .int .i64 mi, .int .i64 ms, .int .i64 md]] w fun e w' => e = .returned (.bool true) ∧ Below w.heap.size w w' := by
  have B1 : ∀ o, Below w.heap.size w (w.alloc o) := fun o => (Below.refl _ _).alloc (Nat.le_refl _) o
  go_enter Try.func35, Try.ntmps35
  go_wp2_with (first | (go_at_call 34; refine (rregister_any _ _).mono ?_; rintro e w' ⟨rfl, rfl⟩) | (go_at_call 36; refine (rsmall_any _ _).mono ?_; rintro e w' ⟨rfl, rfl⟩))
  go_ret
  exact ⟨rfl, B1 _⟩
theorem rplace_d (mb mi ms md : Int) (w : World) (h0 : reg mb = true) (h1 : smallB md = true) (h2 : (mi == -1) = true) (h3 : (ms == 1) = false) :
    Calls Try.prog 35 #[.agg #[.int .i64 mb, .int .i64 mi, .int .i64 ms, .int .i64 md]] w fun e w' => e = .returned (.bool false) ∧ Below w.heap.size w w' := by
  have B1 : ∀ o, Below w.heap.size w (w.alloc o) := fun o => (Below.refl _ _).alloc (Nat.le_refl _) o
  go_enter Try.func35, Try.ntmps35
  go_wp2_with (first | (go_at_call 34; refine (rregister_any _ _).mono ?_; rintro e w' ⟨rfl, rfl⟩) | (go_at_call 36; refine (rsmall_any _ _).mono ?_; rintro e w' ⟨rfl, rfl⟩))
  go_ret
  exact ⟨rfl, B1 _⟩
theorem rplace_e (mb mi ms md : Int) (w : World) (h0 : reg mb = true) (h1 : smallB md = true) (h2 : (mi == -1) = false) (h3 : reg mi = false) :
    Calls Try.prog 35 #[.agg #[.int .i64 mb, .int .i64 mi, .int .i64 ms, .int .i64 md]] w fun e w' => e = .returned (.bool false) ∧ Below w.heap.size w w' := by
  have B1 : ∀ o, Below w.heap.size w (w.alloc o) := fun o => (Below.refl _ _).alloc (Nat.le_refl _) o
  go_enter Try.func35, Try.ntmps35
  go_wp2_with (first | (go_at_call 34; refine (rregister_any _ _).mono ?_; rintro e w' ⟨rfl, rfl⟩) | (go_at_call 36; refine (rsmall_any _ _).mono ?_; rintro e w' ⟨rfl, rfl⟩))
  go_ret
  exact ⟨rfl, B1 _⟩
theorem rplace_f (mb mi ms md : Int) (w : World) (h0 : reg mb = true) (h1 : smallB md = true) (h2 : (mi == -1) = false) (h3 : reg mi = true) (h4 : (mi != 4) = false) :
    Calls Try.prog 35 #[.agg #[.int .i64 mb, .int .i64 mi, .int .i64 ms, .int .i64 md]] w fun e w' => e = .returned (.bool false) ∧ Below w.heap.size w w' := by
  have B1 : ∀ o, Below w.heap.size w (w.alloc o) := fun o => (Below.refl _ _).alloc (Nat.le_refl _) o
  go_enter Try.func35, Try.ntmps35
  go_wp2_with (first | (go_at_call 34; refine (rregister_any _ _).mono ?_; rintro e w' ⟨rfl, rfl⟩) | (go_at_call 36; refine (rsmall_any _ _).mono ?_; rintro e w' ⟨rfl, rfl⟩))
  go_ret
  exact ⟨rfl, B1 _⟩
theorem rplace_g1 (mb mi ms md : Int) (w : World) (h0 : reg mb = true) (h1 : smallB md = true) (h2 : (mi == -1) = false) (h3 : reg mi = true) (h4 : (mi != 4) = true) (h5 : (ms == 1) = true) :
    Calls Try.prog 35 #[.agg #[.int .i64 mb, .int .i64 mi, .int .i64 ms, .int .i64 md]] w fun e w' => e = .returned (.bool true) ∧ Below w.heap.size w w' := by
  have B1 : ∀ o, Below w.heap.size w (w.alloc o) := fun o => (Below.refl _ _).alloc (Nat.le_refl _) o
  go_enter Try.func35, Try.ntmps35
  go_wp2_with (first | (go_at_call 34; refine (rregister_any _ _).mono ?_; rintro e w' ⟨rfl, rfl⟩) | (go_at_call 36; refine (rsmall_any _ _).mono ?_; rintro e w' ⟨rfl, rfl⟩))
  go_ret
  exact ⟨rfl, B1 _⟩
theorem rplace_g2 (mb mi ms md : Int) (w : World) (h0 : reg mb = true) (h1 : smallB md = true) (h2 : (mi == -1) = false) (h3 : reg mi = true) (h4 : (mi != 4) = true) (h5 : (ms == 1) = false) (h6 : (ms == 2) = true) :
    Calls Try.prog 35 #[.agg #[.int .i64 mb, .int .i64 mi, .int .i64 ms, .int .i64 md]] w fun e w' => e = .returned (.bool true) ∧ Below w.heap.size w w' := by
  have B1 : ∀ o, Below w.heap.size w (w.alloc o) := fun o => (Below.refl _ _).alloc (Nat.le_refl _) o
  go_enter Try.func35, Try.ntmps35
  go_wp2_with (first | (go_at_call 34; refine (rregister_any _ _).mono ?_; rintro e w' ⟨rfl, rfl⟩) | (go_at_call 36; refine (rsmall_any _ _).mono ?_; rintro e w' ⟨rfl, rfl⟩))
  go_ret
  exact ⟨rfl, B1 _⟩
theorem rplace_g4 (mb mi ms md : Int) (w : World) (h0 : reg mb = true) (h1 : smallB md = true) (h2 : (mi == -1) = false) (h3 : reg mi = true) (h4 : (mi != 4) = true) (h5 : (ms == 1) = false) (h6 : (ms == 2) = false) (h7 : (ms == 4) = true) :
    Calls Try.prog 35 #[.agg #[.int .i64 mb, .int .i64 mi, .int .i64 ms, .int .i64 md]] w fun e w' => e = .returned (.bool true) ∧ Below w.heap.size w w' := by
  have B1 : ∀ o, Below w.heap.size w (w.alloc o) := fun o => (Below.refl _ _).alloc (Nat.le_refl _) o
  go_enter Try.func35, Try.ntmps35
  go_wp2_with (first | (go_at_call 34; refine (rregister_any _ _).mono ?_; rintro e w' ⟨rfl, rfl⟩) | (go_at_call 36; refine (rsmall_any _ _).mono ?_; rintro e w' ⟨rfl, rfl⟩))
  go_ret
  exact ⟨rfl, B1 _⟩
theorem rplace_g8 (mb mi ms md : Int) (w : World) (h0 : reg mb = true) (h1 : smallB md = true) (h2 : (mi == -1) = false) (h3 : reg mi = true) (h4 : (mi != 4) = true) (h5 : (ms == 1) = false) (h6 : (ms == 2) = false) (h7 : (ms == 4) = false) (h8 : (ms == 8) = true) :
    Calls Try.prog 35 #[.agg #[.int .i64 mb, .int .i64 mi, .int .i64 ms, .int .i64 md]] w fun e w' => e = .returned (.bool true) ∧ Below w.heap.size w w' := by
  have B1 : ∀ o, Below w.heap.size w (w.alloc o) := fun o => (Below.refl _ _).alloc (Nat.le_refl _) o
  go_enter Try.func35, Try.ntmps35
  go_wp2_with (first | (go_at_call 34; refine (rregister_any _ _).mono ?_; rintro e w' ⟨rfl, rfl⟩) | (go_at_call 36; refine (rsmall_any _ _).mono ?_; rintro e w' ⟨rfl, rfl⟩))
  go_ret
  exact ⟨rfl, B1 _⟩
theorem rplace_h (mb mi ms md : Int) (w : World) (h0 : reg mb = true) (h1 : smallB md = true) (h2 : (mi == -1) = false) (h3 : reg mi = true) (h4 : (mi != 4) = true) (h5 : (ms == 1) = false) (h6 : (ms == 2) = false) (h7 : (ms == 4) = false) (h8 : (ms == 8) = false) :
    Calls Try.prog 35 #[.agg #[.int .i64 mb, .int .i64 mi, .int .i64 ms, .int .i64 md]] w fun e w' => e = .returned (.bool false) ∧ Below w.heap.size w w' := by
  have B1 : ∀ o, Below w.heap.size w (w.alloc o) := fun o => (Below.refl _ _).alloc (Nat.le_refl _) o
  go_enter Try.func35, Try.ntmps35
  go_wp2_with (first | (go_at_call 34; refine (rregister_any _ _).mono ?_; rintro e w' ⟨rfl, rfl⟩) | (go_at_call 36; refine (rsmall_any _ _).mono ?_; rintro e w' ⟨rfl, rfl⟩))
  go_ret
  exact ⟨rfl, B1 _⟩
theorem rplace_any (mb mi ms md : Int) (w : World) :
    Calls Try.prog 35 #[.agg #[.int .i64 mb, .int .i64 mi, .int .i64 ms, .int .i64 md]] w fun e w' => e = .returned (.bool (plc mb mi ms md)) ∧ Below w.heap.size w w' := by
  have hp : plc mb mi ms md = (reg mb && (smallB md && (if (mi == -1) = true then (ms == 1) else reg mi && (mi != 4 && ((ms == 1) || ((ms == 2) || ((ms == 4) || (ms == 8)))))))) := by
    unfold plc; simp only [beq_iff_eq, Bool.and_assoc]; congr 2; split <;> (simp; try rfl)
  rw [hp]
  cases h0 : reg mb
  · simpa using rplace_a mb mi ms md w h0
  cases h1 : smallB md
  · simpa using rplace_b mb mi ms md w h0 h1
  cases h2 : (mi == -1)
  · rw [if_neg (by decide)]
    cases h3 : reg mi
    · simpa using rplace_e mb mi ms md w h0 h1 h2 h3
    cases h4 : (mi != 4)
    · simpa using rplace_f mb mi ms md w h0 h1 h2 h3 h4
    cases k1 : (ms == 1)
    · cases k2 : (ms == 2)
      · cases k4 : (ms == 4)
        · cases k8 : (ms == 8)
          · simpa using rplace_h mb mi ms md w h0 h1 h2 h3 h4 k1 k2 k4 k8
          · simpa using rplace_g8 mb mi ms md w h0 h1 h2 h3 h4 k1 k2 k4 k8
        · simpa using rplace_g4 mb mi ms md w h0 h1 h2 h3 h4 k1 k2 k4
      · simpa using rplace_g2 mb mi ms md w h0 h1 h2 h3 h4 k1 k2
    · simpa using rplace_g1 mb mi ms md w h0 h1 h2 h3 h4 k1
  · rw [if_pos rfl]
    cases k1 : (ms == 1)
    · simpa using rplace_d mb mi ms md w h0 h1 h2 k1
    · simpa using rplace_c mb mi ms md w h0 h1 h2 k1
theorem mem_eql (mb mi ms md : Int) (w : World) : (binOp .eql 23 (.agg #[.int .i64 mb, .int .i64 mi, .int .i64 ms, .int .i64 md]) (.agg #[.int .i64 0, .int .i64 0, .int .i64 0, .int .i64 0])).run Try.prog w = .ok (.bool (memZ mb mi ms md)) w := by
  unfold memZ
  by_cases h1 : mb = 0
  · by_cases h2 : mi = 0
    · by_cases h3 : ms = 0
      · by_cases h4 : md = 0
        · subst h1 h2 h3 h4; kernel_rfl
        · subst h1 h2 h3; have h4' : (md == 0) = false := by simpa using h4
          rw [h4']; go_simp
      · subst h1 h2; have h3' : (ms == 0) = false := by simpa using h3
        rw [h3']; go_simp
    · subst h1; have h2' : (mi == 0) = false := by simpa using h2
      rw [h2']; go_simp
  · have h1' : (mb == 0) = false := by simpa using h1
    rw [h1']; go_simp
end Go.Proofs.Ytakmpnmmcjnecaa
