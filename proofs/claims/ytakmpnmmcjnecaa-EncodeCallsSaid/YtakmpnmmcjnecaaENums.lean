/- keysmithlaw06.EncodeNumbers: the walk. Conditions: the numbers are numbers of 64 bits. -/
import Derived.Test.YtakmpnmmcjnecaaERegsP
namespace Go.Proofs.Ytakmpnmmcjnecaa
open Go.RowKit Calm

theorem wrap_small {n : Int} (h : -1000 ≤ n ∧ n ≤ 1000) : IntKind.i64.wrap n = n := by
  simp only [IntKind.wrap, IntKind.bits, IntKind.signed]
  simp
  split <;> omega
set_option maxRecDepth 100000 in
set_option maxHeartbeats 2000000 in
theorem eNums_a (op d s t mb mi ms md imm n : Int) (w : World) (hk : chk op d s t mb mi ms md imm = false) :
    Calls Try.prog 3 #[.agg #[.int .i64 op, .int .i64 d, .int .i64 s, .int .i64 t, .int .i64 mb, .int .i64 mi, .int .i64 ms, .int .i64 md, .int .i64 imm], .int .i32 n] w fun e w' => e = .returned (.bool true) ∧ Below w.heap.size w w' := by
  go_enter Try.func3, Try.ntmps3
  go_wp2_with fail
  go_at_call 13
  refine (lives_any _).mono ?_
  rintro e w1 ⟨rfl, hb1⟩
  have hB1 : Below w.heap.size w w1 := (bal (Below.refl _ _) _).trans (hb1.mono (by simp))
  have hz01 : w.heap.size < w1.heap.size := by have := hb1.size; simp at this; omega
  obtain ⟨f0, f1, f2, f3, f4, f5, f6, f7, f8⟩ := inst_cells hb1
  clear hb1
  go_wp2_with fail
  go_at_call 14
  refine (rcheck_any _ _ _ _ _ _ _ _ _ _).mono ?_
  rw [hk, show errOf false = 2 from rfl]
  rintro e w2 ⟨rfl, hb2⟩
  have hB2 := hB1.trans (hb2.mono hB1.size)
  clear hb2
  go_wp2_with fail
  go_ret
  exact ⟨rfl, hB2⟩
set_option maxRecDepth 100000 in
set_option maxHeartbeats 2000000 in
theorem eNums_b (op d s t mb mi ms md imm n : Int) (w : World) (hk : chk op d s t mb mi ms md imm = true) (hi : hasC (formB op) 105 = false) (hsz : (formB op).size ≤ 1000) :
    Calls Try.prog 3 #[.agg #[.int .i64 op, .int .i64 d, .int .i64 s, .int .i64 t, .int .i64 mb, .int .i64 mi, .int .i64 ms, .int .i64 md, .int .i64 imm], .int .i32 n] w fun e w' => e = .returned (.bool true) ∧ Below w.heap.size w w' := by
  go_enter Try.func3, Try.ntmps3
  go_wp2_with fail
  go_at_call 13
  refine (lives_any _).mono ?_
  rintro e w1 ⟨rfl, hb1⟩
  have hB1 : Below w.heap.size w w1 := (bal (Below.refl _ _) _).trans (hb1.mono (by simp))
  have hz01 : w.heap.size < w1.heap.size := by have := hb1.size; simp at this; omega
  obtain ⟨f0, f1, f2, f3, f4, f5, f6, f7, f8⟩ := inst_cells hb1
  clear hb1
  go_wp2_with fail
  go_at_call 14
  refine (rcheck_any _ _ _ _ _ _ _ _ _ _).mono ?_
  rw [hk, show errOf true = 0 from rfl]
  rintro e w2 ⟨rfl, hb2⟩
  have hB2 := hB1.trans (hb2.mono hB1.size)
  have g0 : w2.cell? ⟨w.heap.size, 0, none⟩ = some (.int .i64 op) := cellk hb2 hz01 f0
  clear hb2
  go_wp2_with (first | (go_at_call 16; refine (form_any _ _).mono ?_; rintro e w3 ⟨rfl, rfl⟩) | (go_at_call 15; refine (rhas_any _ _ _ hsz).mono ?_; rw [hi]; rintro e w3 ⟨rfl, rfl⟩))
  go_ret
  exact ⟨rfl, hB2⟩
set_option maxRecDepth 100000 in
set_option maxHeartbeats 4000000 in
theorem eNums_c (op d s t mb mi ms md imm n : Int) (a b : ByteArray) (w : World) (hk : chk op d s t mb mi ms md imm = true) (hi : hasC (formB op) 105 = true) (hsz : (formB op).size ≤ 1000)
    (hmd : -9223372036854775808 ≤ md ∧ md ≤ 9223372036854775807) (himm : -9223372036854775808 ≤ imm ∧ imm ≤ 9223372036854775807) (hn : -2147483648 ≤ n ∧ n ≤ 2147483647)
    (hk2 : chk op d s t mb mi ms md n = true) (ha : outE op d s t mb mi ms md imm = a) (hb : outE op d s t mb mi ms md n = b) (h5 : 5 ≤ a.size) (hl : a.size ≤ 11) (hba : b.size = a.size) (pre : ByteArray) (hpa : a.extract 0 (a.size - 4) = pre) (hpb : b.extract 0 (b.size - 4) = pre)
    (y0 : ∀ h : b.size - 4 < b.size, ((b[b.size - 4].toNat : Int) != n % 256) = false) (y1 : ∀ h : b.size - 3 < b.size, ((b[b.size - 3].toNat : Int) != n % 4294967296 / 256 % 256) = false)
    (y2 : ∀ h : b.size - 2 < b.size, ((b[b.size - 2].toNat : Int) != n % 4294967296 / 65536 % 256) = false) (y3 : ∀ h : b.size - 1 < b.size, ((b[b.size - 1].toNat : Int) != n % 4294967296 / 16777216 % 256) = false) :
    Calls Try.prog 3 #[.agg #[.int .i64 op, .int .i64 d, .int .i64 s, .int .i64 t, .int .i64 mb, .int .i64 mi, .int .i64 ms, .int .i64 md, .int .i64 imm], .int .i32 n] w fun e w' => e = .returned (.bool true) ∧ Below w.heap.size w w' := by
  go_enter Try.func3, Try.ntmps3
  go_wp2_with fail
  go_at_call 13
  refine (lives_any _).mono ?_
  rintro e w1 ⟨rfl, hb1⟩
  have hB1 : Below w.heap.size w w1 := (bal (Below.refl _ _) _).trans (hb1.mono (by simp))
  have hz01 : w.heap.size < w1.heap.size := by have := hb1.size; simp at this; omega
  obtain ⟨f0, f1, f2, f3, f4, f5, f6, f7, f8⟩ := inst_cells hb1
  clear hb1
  go_wp2_with fail
  go_at_call 14
  refine (rcheck_any _ _ _ _ _ _ _ _ _ _).mono ?_
  rw [hk, show errOf true = 0 from rfl]
  rintro e w2 ⟨rfl, hb2⟩
  have hB2 := hB1.trans (hb2.mono hB1.size)
  have g0 : w2.cell? ⟨w.heap.size, 0, none⟩ = some (.int .i64 op) := cellk hb2 hz01 f0
  have g1 : w2.cell? ⟨w.heap.size, 1, none⟩ = some (.int .i64 d) := cellk hb2 hz01 f1
  have g2 : w2.cell? ⟨w.heap.size, 2, none⟩ = some (.int .i64 s) := cellk hb2 hz01 f2
  have g3 : w2.cell? ⟨w.heap.size, 3, none⟩ = some (.int .i64 t) := cellk hb2 hz01 f3
  have g4 : w2.cell? ⟨w.heap.size, 4, none⟩ = some (.int .i64 mb) := cellk hb2 hz01 f4
  have g5 : w2.cell? ⟨w.heap.size, 5, none⟩ = some (.int .i64 mi) := cellk hb2 hz01 f5
  have g6 : w2.cell? ⟨w.heap.size, 6, none⟩ = some (.int .i64 ms) := cellk hb2 hz01 f6
  have g7 : w2.cell? ⟨w.heap.size, 7, none⟩ = some (.int .i64 md) := cellk hb2 hz01 f7
  have g8 : w2.cell? ⟨w.heap.size, 8, none⟩ = some (.int .i64 imm) := cellk hb2 hz01 f8
  have hz02 : w.heap.size < w2.heap.size := Nat.lt_of_lt_of_le hz01 hb2.size
  clear hb2 f0 f1 f2 f3 f4 f5 f6 f7 f8
  go_wp2_with (first | (go_at_call 16; refine (form_any _ _).mono ?_; rintro e w3 ⟨rfl, rfl⟩) | (go_at_call 15; refine (rhas_any _ _ _ hsz).mono ?_; rw [hi]; rintro e w3 ⟨rfl, rfl⟩))
  go_at_call 17
  refine (einst_eq _ _ _ _ _ _ _ _ _ _ _ hmd himm 0 ha (by rw [hk]; rfl)).mono ?_
  rintro e w3 ⟨rfl, hb3⟩
  have hB3 : Below w.heap.size w w3 := (bal hB2 _).trans (hb3.mono (by have := hB2.size; simp; omega))
  have hz23 : w2.heap.size < w3.heap.size := by have := hb3.size; simp at this; omega
  obtain ⟨f0, f1, f2, f3, f4, f5, f6, f7, f8⟩ := inst_cells hb3
  clear hb3 g0 g1 g2 g3 g4 g5 g6 g7 g8
  go_wp2_with fail
  go_at_call 17
  refine (einst_eq _ _ _ _ _ _ _ _ _ _ _ hmd (by omega) 0 hb (by rw [hk2]; rfl)).mono ?_
  rintro e w4 ⟨rfl, hb4⟩
  have hB4 : Below w.heap.size w w4 := hB3.trans (hb4.mono hB3.size)
  clear hb4 f0 f1 f2 f3 f4 f5 f6 f7 f8 hB1 hB2 hB3
  have e1 : ((a.size : Int) != (b.size : Int)) = false := by simp [hba]
  have e2 : decide ((a.size : Int) < 5) = false := by simp; omega
  have hw1 : IntKind.i64.wrap ((a.size : Int) - 4) = (a.size : Int) - 4 := wrap_small (by omega)
  have hw2 : IntKind.i64.wrap ((b.size : Int) - 4) = (b.size : Int) - 4 := wrap_small (by omega)
  have ba : (0 : Int) ≤ (a.size : Int) - 4 ∧ (a.size : Int) - 4 ≤ (a.size : Int) := by omega
  have bb : (0 : Int) ≤ (b.size : Int) - 4 ∧ (b.size : Int) - 4 ≤ (b.size : Int) := by omega
  have sl1 : ∀ w : World, (Instr.slice 9 (.string a) none (some (.int .i64 ((a.size : Int) - 4))) none).run Try.prog w = .ok (.string pre) w := by
    intro w
    rw [run_slice_string_h w 9 a Try.underlying9 .i64 _ ba.1 ba.2, show ((a.size : Int) - 4).toNat = a.size - 4 by omega, hpa]
  have sl2 : ∀ w : World, (Instr.slice 9 (.string b) none (some (.int .i64 ((b.size : Int) - 4))) none).run Try.prog w = .ok (.string pre) w := by
    intro w
    rw [run_slice_string_h w 9 b Try.underlying9 .i64 _ bb.1 bb.2, show ((b.size : Int) - 4).toNat = b.size - 4 by omega, hpb]
  have hpa' := hidd hpa
  have hpb' := hidd hpb
  clear hpa hpb
  have hb5 : 5 ≤ b.size := by omega
  have v1 : wrap64 ((b.size : Int) - 4 + 1) = (b.size : Int) - 3 := by unfold wrap64; omega
  have v2 : wrap64 ((b.size : Int) - 4 + 2) = (b.size : Int) - 2 := by unfold wrap64; omega
  have v3 : wrap64 ((b.size : Int) - 4 + 3) = (b.size : Int) - 1 := by unfold wrap64; omega
  have r1 : (0 : Int) ≤ (b.size : Int) - 3 ∧ (b.size : Int) - 3 < (b.size : Int) := by omega
  have r2 : (0 : Int) ≤ (b.size : Int) - 2 ∧ (b.size : Int) - 2 < (b.size : Int) := by omega
  have r3 : (0 : Int) ≤ (b.size : Int) - 1 ∧ (b.size : Int) - 1 < (b.size : Int) := by omega
  have hba' := hidd hba
  clear hba
  have q0 := y0 (by omega)
  have q1 := y1 (by omega)
  have q2 := y2 (by omega)
  have q3 := y3 (by omega)
  clear y0 y1 y2 y3
  go_wp2_with fail
  go_quiet (fail)
  go_wp2_with fail
  go_loopw [10] (fun i wr => (i = .int .i64 0 ∨ i = .int .i64 1 ∨ i = .int .i64 2 ∨ i = .int .i64 3 ∨ i = .int .i64 4) ∧ Below w.heap.size w wr) (fun i _ => 4 - (intOf i).toNat)
  case atStart => exact ⟨.inl rfl, below_drN hB4 _⟩
  case round =>
    obtain ⟨hrel, hbw⟩ := hrel
    rcases hrel with rfl | rfl | rfl | rfl | rfl
    · go_wp2_with fail
      go_roundw
      case rel => exact ⟨.inr (.inl rfl), hbw⟩
      case measure => simp [intOf]
    · go_wp2_with fail
      go_roundw
      case rel => exact ⟨.inr (.inr (.inl rfl)), hbw⟩
      case measure => simp [intOf]
    · go_wp2_with fail
      go_roundw
      case rel => exact ⟨.inr (.inr (.inr (.inl rfl))), hbw⟩
      case measure => simp [intOf]
    · go_wp2_with fail
      go_roundw
      case rel => exact ⟨.inr (.inr (.inr (.inr rfl))), hbw⟩
      case measure => simp [intOf]
    · go_wp2_with fail
      go_ret
      exact ⟨rfl, hbw⟩
end Go.Proofs.Ytakmpnmmcjnecaa
