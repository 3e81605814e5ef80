/- keysmithlaw06.EncodeRegisters: the walk. Conditions: the numbers are numbers of 64 bits. -/
import Derived.Test.YtakmpnmmcjnecaaEPlain
import Derived.BigQuiet
namespace Go.Proofs.Ytakmpnmmcjnecaa
open Go.RowKit Calm

theorem ds_ne (b : ByteArray) (h : b ≠ ⟨#[68, 83]⟩) : (b.toList != [68, 83]) = true ∧ (b.toList == [68, 83]) = false := by
  have : b.toList ≠ [68, 83] := by
    intro e
    apply h
    apply ByteArray.ext
    have e2 : b.toList = b.data.toList := ByteArray.toList_eq b
    rw [e2] at e
    exact Array.toList_inj.1 (by rw [e])
  simp [this]
theorem form_not (op : Int) (w : World) (h : formB op ≠ ⟨#[68, 83]⟩) : Calls Try.prog 16 #[.int .i64 op] w fun e w' => (∃ s : ByteArray, e = .returned (.string s) ∧ (s.toList != [68, 83]) = true ∧ (s.toList == [68, 83]) = false) ∧ w = w' :=
  (form_any op w).mono fun _ _ ⟨a, b⟩ => ⟨⟨_, a, (ds_ne _ h).1, (ds_ne _ h).2⟩, b⟩
set_option maxRecDepth 100000 in
set_option maxHeartbeats 2000000 in
theorem eRegs_a (d s op : Int) (w : World) (hf : formB op ≠ ⟨#[68, 83]⟩) :
    Calls Try.prog 4 #[.int .i64 d, .int .i64 s, .int .i64 op] w fun e w' => e = .returned (.bool true) ∧ Below w.heap.size w w' := by
  go_enter Try.func4, Try.ntmps4
  go_wp2_with (first | (go_at_call 13; refine (lives_any _).mono ?_; rintro e w1 ⟨rfl, hb1⟩) | (go_at_call 16; refine (form_not _ _ hf).mono ?_; rintro e w2 ⟨⟨sv, rfl, hs1, hs2⟩, rfl⟩))
  go_ret
  exact ⟨rfl, bal hb1 _⟩
set_option maxRecDepth 100000 in
set_option maxHeartbeats 2000000 in
theorem eRegs_b (d s op : Int) (w : World) (hf : formB op = ⟨#[68, 83]⟩) (hk : chk op d s 0 0 0 0 0 0 = false) :
    Calls Try.prog 4 #[.int .i64 d, .int .i64 s, .int .i64 op] w fun e w' => e = .returned (.bool true) ∧ Below w.heap.size w w' := by
  go_enter Try.func4, Try.ntmps4
  go_wp2_with (first | (go_at_call 13; refine (lives_any _).mono ?_; rintro e w1 ⟨rfl, hb1⟩) | (go_at_call 16; refine (form_any _ _).mono ?_; rw [hf]; rintro e w2 ⟨rfl, rfl⟩) | (go_at_call 14; refine (rcheck_any _ _ _ _ _ _ _ _ _ _).mono ?_; rw [hk]; rintro e w2 ⟨rfl, hb2⟩))
  have hB : Below w.heap.size w w2 := (bal hb1 _).trans (hb2.mono (by have := hb1.size; simp; omega))
  go_ret
  exact ⟨rfl, hB⟩
theorem inst_cells {op d s t mb mi ms md imm : Int} {ty : TypeId} {w w' : World} (hb : Below (w.alloc (.cells #[.int .i64 op, .int .i64 d, .int .i64 s, .int .i64 t, .int .i64 mb, .int .i64 mi, .int .i64 ms, .int .i64 md, .int .i64 imm] ty)).heap.size (w.alloc (.cells #[.int .i64 op, .int .i64 d, .int .i64 s, .int .i64 t, .int .i64 mb, .int .i64 mi, .int .i64 ms, .int .i64 md, .int .i64 imm] ty)) w') :
    w'.cell? ⟨w.heap.size, 0, none⟩ = some (.int .i64 op) ∧ w'.cell? ⟨w.heap.size, 1, none⟩ = some (.int .i64 d) ∧ w'.cell? ⟨w.heap.size, 2, none⟩ = some (.int .i64 s) ∧ w'.cell? ⟨w.heap.size, 3, none⟩ = some (.int .i64 t) ∧ w'.cell? ⟨w.heap.size, 4, none⟩ = some (.int .i64 mb) ∧ w'.cell? ⟨w.heap.size, 5, none⟩ = some (.int .i64 mi) ∧ w'.cell? ⟨w.heap.size, 6, none⟩ = some (.int .i64 ms) ∧ w'.cell? ⟨w.heap.size, 7, none⟩ = some (.int .i64 md) ∧ w'.cell? ⟨w.heap.size, 8, none⟩ = some (.int .i64 imm) :=
  ⟨cellk hb (by simp) (by rw [World.cell?_alloc_new]; rfl), cellk hb (by simp) (by rw [World.cell?_alloc_new]; rfl), cellk hb (by simp) (by rw [World.cell?_alloc_new]; rfl), cellk hb (by simp) (by rw [World.cell?_alloc_new]; rfl), cellk hb (by simp) (by rw [World.cell?_alloc_new]; rfl), cellk hb (by simp) (by rw [World.cell?_alloc_new]; rfl), cellk hb (by simp) (by rw [World.cell?_alloc_new]; rfl), cellk hb (by simp) (by rw [World.cell?_alloc_new]; rfl), cellk hb (by simp) (by rw [World.cell?_alloc_new]; rfl)⟩
theorem below_drN {B : Nat} {a w : World} (h : Below B a w) (n : Nat) : Below B a (w.drewN n) := ⟨h.os, h.tape, h.output, h.size, h.block⟩
set_option maxRecDepth 100000 in
set_option maxHeartbeats 4000000 in
theorem eRegs_c (d s op : Int) (a : ByteArray) (w : World) (hd : 0 ≤ d ∧ d ≤ 15) (hs : 0 ≤ s ∧ s ≤ 15) (hf : formB op = ⟨#[68, 83]⟩) (hk : chk op d s 0 0 0 0 0 0 = true) (hk2 : chk op (d % 8) (s % 8) 0 0 0 0 0 0 = true)
    (ha : outE op d s 0 0 0 0 0 0 = a) (hb : outE op (d % 8) (s % 8) 0 0 0 0 0 0 = a) (h3 : 3 ≤ a.size) (hl : a.size ≤ 11) (hlow : d < 8 ∧ s < 8) :
    Calls Try.prog 4 #[.int .i64 d, .int .i64 s, .int .i64 op] w fun e w' => e = .returned (.bool true) ∧ Below w.heap.size w w' := by
  go_enter Try.func4, Try.ntmps4
  go_wp2_with (first | (go_at_call 13; refine (lives_any _).mono ?_; rintro e w1 ⟨rfl, hb1⟩) | (go_at_call 16; refine (form_any _ _).mono ?_; rw [hf]; rintro e w2 ⟨rfl, rfl⟩))
  go_at_call 14
  refine (rcheck_any _ _ _ _ _ _ _ _ _ _).mono ?_
  rw [hk, show errOf true = 0 from rfl]
  rintro e w2 ⟨rfl, hb2⟩
  have hB2 : Below w.heap.size w w2 := (bal hb1 _).trans (hb2.mono (by have := hb1.size; simp; omega))
  obtain ⟨f0, f1, f2, f3, f4, f5, f6, f7, f8⟩ := inst_cells hb2
  have hz12 : w1.heap.size < w2.heap.size := by have := hb2.size; simp at this; omega
  clear hb2
  go_wp2_with fail
  go_at_call 17
  refine (einst_eq _ _ _ _ _ _ _ _ _ _ _ (by decide) (by decide) 0 ha (by rw [hk]; rfl)).mono ?_
  rintro e w3 ⟨rfl, hb3⟩
  have hB3 : Below w.heap.size w w3 := (bal hB2 _).trans (hb3.mono (by have := hB2.size; simp; omega))
  clear f0 f1 f2 f3 f4 f5 f6 f7 f8
  obtain ⟨f0, f1, f2, f3, f4, f5, f6, f7, f8⟩ := inst_cells hb3
  have hz23 : w2.heap.size < w3.heap.size := by have := hb3.size; simp at this; omega
  clear hb3
  go_wp2_with fail
  go_at_call 17
  refine (einst_eq _ _ _ _ _ _ _ _ _ _ _ (by decide) (by decide) 0 hb (by rw [hk2]; rfl)).mono ?_
  rintro e w4 ⟨rfl, hb4⟩
  have hB4 : Below w.heap.size w w4 := hB3.trans (hb4.mono hB3.size)
  clear f0 f1 f2 f3 f4 f5 f6 f7 f8 hb4 hB3 hB2 hb1
  have hlt3 : ¬ ((a.size : Int) < 3) := by omega
  have hld := hidd hlow
  have hdd := hidd hd
  have hss := hidd hs
  have hd8 : decide (d < 8) = true := by simp [hlow.1]
  have hs8 : decide (s < 8) = true := by simp [hlow.2]
  go_wp2_with fail
  go_loopw [13, 14] (fun u i wr => ∃ (k : Nat), k ≤ a.size ∧ i = .int .i64 k ∧ u = .int .i64 0 ∧ Below w.heap.size w wr) (fun _ i _ => a.size - (intOf i).toNat)
  case atStart => exact ⟨0, by omega, rfl, rfl, hB4⟩
  case round =>
    obtain ⟨k, hk0, rfl, rfl, hbw⟩ := hrel
    by_cases hlt : k < a.size
    · have hbd : (0 : Int) ≤ (k : Int) ∧ (k : Int) < (a.size : Int) := by omega
      go_wp2_with fail
      go_quiet (fail)
      go_wp2_with fail
      go_roundw
      case rel => exact ⟨k + 1, by omega, by go_num, rfl, below_drN hbw _⟩
      case measure => simp [intOf]; omega
    · have hbd : ¬ (k : Int) < (a.size : Int) := by omega
      go_wp2_with fail
      go_ret
      exact ⟨rfl, hbw⟩
set_option maxRecDepth 100000 in
set_option maxHeartbeats 4000000 in
theorem eRegs_d (d s op : Int) (a b : ByteArray) (p : Nat) (w : World) (hd : 0 ≤ d ∧ d ≤ 15) (hs : 0 ≤ s ∧ s ≤ 15) (hf : formB op = ⟨#[68, 83]⟩) (hk : chk op d s 0 0 0 0 0 0 = true) (hk2 : chk op (d % 8) (s % 8) 0 0 0 0 0 0 = true)
    (ha : outE op d s 0 0 0 0 0 0 = a) (hb : outE op (d % 8) (s % 8) 0 0 0 0 0 0 = b) (h3 : 3 ≤ a.size) (hl : a.size ≤ 11) (hlow : ¬ (d < 8 ∧ s < 8)) (hn : b.size = a.size) (hp : p < a.size)
    (heq : ∀ (k : Nat) (h : k < a.size) (h2 : k < b.size), k ≠ p → a[k].toNat = b[k].toNat) (hne : ∀ (k : Nat) (h : k < a.size) (h2 : k < b.size), k = p → ((a[k].toNat : Int) != (b[k].toNat : Int)) = true)
    (hx1 : ∀ (k : Nat) (h : k < a.size) (h2 : k < b.size), k = p → (bits BinOp.andNot IntKind.u8 (bits BinOp.andNot IntKind.u8 (a[k].toNat : Int) (b[k].toNat : Int)) 7 != 0) = false)
    (hx2 : ∀ (k : Nat) (h : k < a.size) (h2 : k < b.size), k = p → (bits BinOp.andNot IntKind.u8 (b[k].toNat : Int) (a[k].toNat : Int) != 0) = false) :
    Calls Try.prog 4 #[.int .i64 d, .int .i64 s, .int .i64 op] w fun e w' => e = .returned (.bool true) ∧ Below w.heap.size w w' := by
  go_enter Try.func4, Try.ntmps4
  go_wp2_with (first | (go_at_call 13; refine (lives_any _).mono ?_; rintro e w1 ⟨rfl, hb1⟩) | (go_at_call 16; refine (form_any _ _).mono ?_; rw [hf]; rintro e w2 ⟨rfl, rfl⟩))
  go_at_call 14
  refine (rcheck_any _ _ _ _ _ _ _ _ _ _).mono ?_
  rw [hk, show errOf true = 0 from rfl]
  rintro e w2 ⟨rfl, hb2⟩
  have hB2 : Below w.heap.size w w2 := (bal hb1 _).trans (hb2.mono (by have := hb1.size; simp; omega))
  obtain ⟨f0, f1, f2, f3, f4, f5, f6, f7, f8⟩ := inst_cells hb2
  have hz12 : w1.heap.size < w2.heap.size := by have := hb2.size; simp at this; omega
  clear hb2
  go_wp2_with fail
  go_at_call 17
  refine (einst_eq _ _ _ _ _ _ _ _ _ _ _ (by decide) (by decide) 0 ha (by rw [hk]; rfl)).mono ?_
  rintro e w3 ⟨rfl, hb3⟩
  have hB3 : Below w.heap.size w w3 := (bal hB2 _).trans (hb3.mono (by have := hB2.size; simp; omega))
  clear f0 f1 f2 f3 f4 f5 f6 f7 f8
  obtain ⟨f0, f1, f2, f3, f4, f5, f6, f7, f8⟩ := inst_cells hb3
  have hz23 : w2.heap.size < w3.heap.size := by have := hb3.size; simp at this; omega
  clear hb3
  go_wp2_with fail
  go_at_call 17
  refine (einst_eq _ _ _ _ _ _ _ _ _ _ _ (by decide) (by decide) 0 hb (by rw [hk2]; rfl)).mono ?_
  rintro e w4 ⟨rfl, hb4⟩
  have hB4 : Below w.heap.size w w4 := hB3.trans (hb4.mono hB3.size)
  clear f0 f1 f2 f3 f4 f5 f6 f7 f8 hb4 hB3 hB2 hb1
  have hlt3 : ¬ ((a.size : Int) < 3) := by omega
  have hld := hidd hlow
  have hdd := hidd hd
  have hss := hidd hs
  clear hlow
  have hsz : ((a.size : Int) != (b.size : Int)) = false := by simp [hn]
  have hn' := hidd hn
  clear hn
  go_wp2_with fail
  go_loopw [13, 14] (fun u i wr => ∃ (k : Nat), k ≤ a.size ∧ i = .int .i64 k ∧ u = .int .i64 (if p < k then 1 else 0) ∧ Below w.heap.size w wr) (fun _ i _ => a.size - (intOf i).toNat)
  case atStart => exact ⟨0, by omega, rfl, by simp, hB4⟩
  case round =>
    obtain ⟨k, hk0, rfl, rfl, hbw⟩ := hrel
    by_cases hlt : k < a.size
    · have hbd : (0 : Int) ≤ (k : Int) ∧ (k : Int) < (a.size : Int) := by omega
      have hlt2 : k < b.size := by have := hn'.out; omega
      have hbd2 : (0 : Int) ≤ (k : Int) ∧ (k : Int) < (b.size : Int) := by omega
      by_cases hkp : k = p
      · have g1 := hne k hlt hlt2 hkp
        have g2 := hx1 k hlt hlt2 hkp
        have g3 := hx2 k hlt hlt2 hkp
        have g4 : (if p < k then (1 : Int) else 0) = 0 := by rw [if_neg (by omega)]
        have g5 : Hid ((if p < k + 1 then (1 : Int) else 0) = 1) := by show _ = _; rw [if_pos (by omega)]
        clear hne hx1 hx2 heq hkp
        rw [g4]
        clear g4
        go_wp2_with fail
        go_quiet (fail)
        go_wp2_with fail
        go_quiet (fail)
        go_wp2_with fail
        go_roundw
        case rel => exact ⟨k + 1, by omega, by go_num, by rw [g5.out], below_drN hbw _⟩
        case measure => simp [intOf]; omega
      · have g1 : ((a[k].toNat : Int) != (b[k].toNat : Int)) = false := by rw [heq k hlt hlt2 hkp]; simp
        have g5 : Hid ((if p < k + 1 then (1 : Int) else 0) = if p < k then (1 : Int) else 0) := by
          show _ = _
          by_cases h : p < k
          · rw [if_pos h, if_pos (by omega)]
          · rw [if_neg h, if_neg (by omega)]
        obtain ⟨u, hu⟩ : ∃ u : Int, (if p < k then (1 : Int) else 0) = u := ⟨_, rfl⟩
        rw [hu] at g5 ⊢
        clear hne hx1 hx2 heq hkp hu
        go_wp2_with fail
        go_quiet (fail)
        go_wp2_with fail
        go_roundw
        case rel => exact ⟨k + 1, by omega, by go_num, by rw [g5.out], below_drN hbw _⟩
        case measure => simp [intOf]; omega
    · have hbd : ¬ (k : Int) < (a.size : Int) := by omega
      have g4 : (if p < k then (1 : Int) else 0) = 1 := by rw [if_pos (by omega)]
      clear hne hx1 hx2 heq
      rw [g4]
      clear g4
      by_cases h8 : d < 8
      · have hs8 : decide (s < 8) = false := by have := hld.out; simp; omega
        have hd8 : decide (d < 8) = true := by simp [h8]
        clear h8
        go_wp2_with fail
        go_ret
        exact ⟨rfl, hbw⟩
      · have hd8 : decide (d < 8) = false := by simp [h8]
        clear h8
        go_wp2_with fail
        go_ret
        exact ⟨rfl, hbw⟩
end Go.Proofs.Ytakmpnmmcjnecaa
