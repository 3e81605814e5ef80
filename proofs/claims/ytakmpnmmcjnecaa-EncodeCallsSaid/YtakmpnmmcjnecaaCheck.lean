/- The walk of inst.Check (layer 5): an instruction may be, or not. Conditions: none, but that numbers are of their kinds. -/
import Derived.Test.YtakmpnmmcjnecaaInst
namespace Go.Proofs.Ytakmpnmmcjnecaa
open Go.RowKit Calm

def plc (mb mi ms md : Int) : Bool := reg mb && smallB md && (if mi = -1 then ms == 1 else reg mi && mi != 4 && decide (ms ∈ [1, 2, 4, 8]))
attribute [local irreducible] has reg numOk smallB fName fIs fReads fWrites plc
set_option maxHeartbeats 2000000 in
theorem place_any (mb mi ms md : Int) (w : World) (h : -9223372036854775808 ≤ md ∧ md ≤ 9223372036854775807) :
    Calls Try.prog 47 #[.agg #[.int .i64 mb, .int .i64 mi, .int .i64 ms, .int .i64 md]] w fun e w' => e = .returned (.bool (plc mb mi ms md)) ∧ Below w.heap.size w w' := by
  have B1 : ∀ o, Below w.heap.size w (w.alloc o) := fun o => (Below.refl _ _).alloc (Nat.le_refl _) o
  have hp : Hid (plc mb mi ms md = (reg mb && smallB md && (if mi = -1 then ms == 1 else reg mi && mi != 4 && decide (ms ∈ [1, 2, 4, 8])))) := by show _ = _; unfold plc; rfl
  by_cases h1 : reg mb = true
  · by_cases h2 : smallB md = true
    · by_cases h3 : mi = -1
      · subst h3
        have hq : Hid ((ms == 1) = plc mb (-1) ms md) := by show _ = _; rw [hp.out, h1, h2]; simp
        go_enter Try.func47, Try.ntmps47
        go_wp2_with (first | (go_at_call 46; refine (register_any _ _).mono ?_; rintro e w' ⟨rfl, rfl⟩) | (go_at_call 77; refine (small_any _ _ h).mono ?_; rintro e w' ⟨rfl, rfl⟩))
        go_ret
        exact ⟨ret_bool hq.out, B1 _⟩
      · have h3' : (mi == -1) = false := by simpa using h3
        by_cases h4 : reg mi = true
        · by_cases h5 : mi = 4
          · subst h5
            have h5' : ((4 : Int) != 4) = false := rfl
            have hq : Hid (false = plc mb 4 ms md) := by show _ = _; rw [hp.out, h1, h2, h4]; simp
            go_enter Try.func47, Try.ntmps47
            go_wp2_with (first | (go_at_call 46; refine (register_any _ _).mono ?_; rintro e w' ⟨rfl, rfl⟩) | (go_at_call 77; refine (small_any _ _ h).mono ?_; rintro e w' ⟨rfl, rfl⟩))
            go_ret
            exact ⟨ret_bool hq.out, B1 _⟩
          · have h5' : (mi != 4) = true := by simpa using h5
            have hq : Hid (decide (ms ∈ [1, 2, 4, 8]) = plc mb mi ms md) := by show _ = _; rw [hp.out, h1, h2, h4, if_neg h3, h5']; simp
            clear h3 h5
            go_enter Try.func47, Try.ntmps47
            go_wp2_with (first | (go_at_call 46; refine (register_any _ _).mono ?_; rintro e w' ⟨rfl, rfl⟩) | (go_at_call 77; refine (small_any _ _ h).mono ?_; rintro e w' ⟨rfl, rfl⟩))
            go_at_call 78
            refine (contains_any (w.heap.size + 1) 0 4 [1, 2, 4, 8] ms _ (by decide) ?_).mono ?_
            · intro j hj
              have hj' : j = 0 ∨ j = 1 ∨ j = 2 ∨ j = 3 := by simp at hj; omega
              rcases hj' with rfl | rfl | rfl | rfl <;> go_simp
            rintro e w' ⟨rfl, rfl⟩
            go_wp2
            go_ret
            exact ⟨ret_bool (by first | exact hq.out | (rw [← hq.out]; simp)), bal (B1 _) _⟩
        · have h4 : reg mi = false := by simpa using h4
          have hq : Hid (false = plc mb mi ms md) := by show _ = _; rw [hp.out, h1, h2, if_neg h3, h4]; simp
          clear h3
          go_enter Try.func47, Try.ntmps47
          go_wp2_with (first | (go_at_call 46; refine (register_any _ _).mono ?_; rintro e w' ⟨rfl, rfl⟩) | (go_at_call 77; refine (small_any _ _ h).mono ?_; rintro e w' ⟨rfl, rfl⟩))
          go_ret
          exact ⟨ret_bool hq.out, B1 _⟩
    · have h2 : smallB md = false := by simpa using h2
      have hq : Hid (false = plc mb mi ms md) := by show _ = _; rw [hp.out, h1, h2]; simp
      go_enter Try.func47, Try.ntmps47
      go_wp2_with (first | (go_at_call 46; refine (register_any _ _).mono ?_; rintro e w' ⟨rfl, rfl⟩) | (go_at_call 77; refine (small_any _ _ h).mono ?_; rintro e w' ⟨rfl, rfl⟩))
      go_ret
      exact ⟨ret_bool hq.out, B1 _⟩
  · have h1 : reg mb = false := by simpa using h1
    have hq : Hid (false = plc mb mi ms md) := by show _ = _; rw [hp.out, h1]; simp
    go_enter Try.func47, Try.ntmps47
    go_wp2_with (first | (go_at_call 46; refine (register_any _ _).mono ?_; rintro e w' ⟨rfl, rfl⟩) | (go_at_call 77; refine (small_any _ _ h).mono ?_; rintro e w' ⟨rfl, rfl⟩))
    go_ret
    exact ⟨ret_bool hq.out, B1 _⟩

def memZ (mb mi ms md : Int) : Bool := mb == 0 && mi == 0 && ms == 0 && md == 0
theorem mem_neq (mb mi ms md : Int) (w : World) : (binOp .neq 23 (.agg #[.int .i64 mb, .int .i64 mi, .int .i64 ms, .int .i64 md]) (.agg #[.int .i64 0, .int .i64 0, .int .i64 0, .int .i64 0])).run Try.prog w = .ok (.bool (!memZ mb mi ms md)) w := by
  unfold memZ
  by_cases h1 : mb = 0
  · by_cases h2 : mi = 0
    · by_cases h3 : ms = 0
      · by_cases h4 : md = 0
        · subst h1 h2 h3 h4; kernel_rfl
        · subst h1 h2 h3; have h4' : (md == 0) = false := by simpa using h4
          rw [h4']; go_simp
      · subst h1 h2; have h3' : (ms == 0) = false := by simpa using h3
        rw [h3']; go_simp
    · subst h1; have h2' : (mi == 0) = false := by simpa using h2
      rw [h2']; go_simp
  · have h1' : (mb == 0) = false := by simpa using h1
    rw [h1']; go_simp
def fld (f k x : Int) : Bool := if has f k then reg x else x == 0
def memOk (f mb mi ms md : Int) : Bool := if has f 8 then plc mb mi ms md else memZ mb mi ms md
def chk (op d s t mb mi ms md imm : Int) : Bool :=
  !(fName op).toList.isEmpty && numOk (fIs op) imm && fld (fIs op) 1 d && fld (fIs op) 2 s && fld (fIs op) 4 t && memOk (fIs op) mb mi ms md && !(has (fIs op) 4 && d == s)
def errOf (b : Bool) : Int := if b then 0 else 2
theorem bel_trans {W w1 w2 : World} (h : Below W.heap.size W w1) (k : Below w1.heap.size w1 w2) : Below W.heap.size W w2 := h.trans (k.mono h.size)
def FldPre (f d s t : Int) (k : Nat) : Prop := (0 < k → fld f 1 d = true) ∧ (1 < k → fld f 2 s = true) ∧ (2 < k → fld f 4 t = true)
theorem pre_0 (f d s t : Int) : FldPre f d s t 0 := ⟨by omega, by omega, by omega⟩
theorem pre_1 {f d s t : Int} (_h : FldPre f d s t 0) (h : fld f 1 d = true) : FldPre f d s t 1 := ⟨fun _ => h, by omega, by omega⟩
theorem pre_2 {f d s t : Int} (hp : FldPre f d s t 1) (h : fld f 2 s = true) : FldPre f d s t 2 := ⟨fun _ => hp.1 (by omega), fun _ => h, by omega⟩
theorem pre_3 {f d s t : Int} (hp : FldPre f d s t 2) (h : fld f 4 t = true) : FldPre f d s t 3 := ⟨fun _ => hp.1 (by omega), fun _ => hp.2.1 (by omega), fun _ => h⟩
set_option maxHeartbeats 4000000 in
set_option maxRecDepth 100000 in
theorem check_any (op d s t mb mi ms md imm : Int) (w : World) (hd : -9223372036854775808 ≤ md ∧ md ≤ 9223372036854775807) (hi : -9223372036854775808 ≤ imm ∧ imm ≤ 9223372036854775807) :
    Calls Try.prog 37 #[.agg #[.int .i64 op, .int .i64 d, .int .i64 s, .int .i64 t, .int .i64 mb, .int .i64 mi, .int .i64 ms, .int .i64 md, .int .i64 imm]] w
      fun e w' => e = .returned (.int .i64 (errOf (chk op d s t mb mi ms md imm))) ∧ Below w.heap.size w w' := by
  have hk : Hid (chk op d s t mb mi ms md imm = (!(fName op).toList.isEmpty && numOk (fIs op) imm && fld (fIs op) 1 d && fld (fIs op) 2 s && fld (fIs op) 4 t && memOk (fIs op) mb mi ms md && !(has (fIs op) 4 && d == s))) := by show _ = _; rfl
  go_enter Try.func37, Try.ntmps37
  go_wp2_with fail
  go_at_call 43
  refine (of_any op _).mono ?_
  rintro e w1 ⟨rfl, hb1⟩
  unfold fV
  obtain ⟨hc1, hf1⟩ := bcell hb1
  have hz1 : w.heap.size < w1.heap.size := by have := hb1.size; simp at this; omega
  cases hN : (fName op).toList.isEmpty with
  | true =>
    have hq : Hid (chk op d s t mb mi ms md imm = false) := by show _ = _; rw [hk.out, hN]; rfl
    have hB : Below w.heap.size w w1 := ((Below.refl _ _).alloc (Nat.le_refl _) _).trans (hb1.mono (by simp))
    go_wp2
    go_ret
    exact ⟨ret_int (by rw [hq.out]; rfl), bal hB _⟩
  | false =>
    go_wp2_with fail
    go_at_call 44
    refine (number_any _ _ _ _ _ _ hi).mono ?_
    rintro e w2 ⟨rfl, hb2⟩
    obtain ⟨hc2, hf2⟩ := bcell hb2
    have hz2 : w1.heap.size < w2.heap.size := by have := hb2.size; simp at this; omega
    have hz3 : w.heap.size < w2.heap.size := by omega
    have hB : Below w.heap.size w w2 := (((((Below.refl _ _).alloc (Nat.le_refl _) _).trans (hb1.mono (by simp))).alloc (by omega) _).trans (hb2.mono (by simp; omega)))
    cases hM : numOk (fIs op) imm with
    | false =>
      have hq : Hid (chk op d s t mb mi ms md imm = false) := by show _ = _; rw [hk.out, hN, hM]; rfl
      go_wp2
      go_ret
      exact ⟨ret_int (by rw [hq.out]; rfl), hB⟩
    | true =>
      have g0 : w2.cell? ⟨w.heap.size, 0, none⟩ = some (.int .i64 op) := by go_simp
      have g1 : w2.cell? ⟨w.heap.size, 1, none⟩ = some (.int .i64 d) := by go_simp
      have g2 : w2.cell? ⟨w.heap.size, 2, none⟩ = some (.int .i64 s) := by go_simp
      have g3 : w2.cell? ⟨w.heap.size, 3, none⟩ = some (.int .i64 t) := by go_simp
      have g4 : w2.cell? ⟨w.heap.size, 4, none⟩ = some (.int .i64 mb) := by go_simp
      have g5 : w2.cell? ⟨w.heap.size, 5, none⟩ = some (.int .i64 mi) := by go_simp
      have g6 : w2.cell? ⟨w.heap.size, 6, none⟩ = some (.int .i64 ms) := by go_simp
      have g7 : w2.cell? ⟨w.heap.size, 7, none⟩ = some (.int .i64 md) := by go_simp
      have k0 : w2.cell? ⟨w1.heap.size, 0, none⟩ = some (.string (fName op)) := by go_simp
      have k1 : w2.cell? ⟨w1.heap.size, 1, none⟩ = some (.int .i64 (fIs op)) := by go_simp
      have k2 : w2.cell? ⟨w1.heap.size, 2, none⟩ = some (.int .i64 (fReads op)) := by go_simp
      have k3 : w2.cell? ⟨w1.heap.size, 3, none⟩ = some (.int .i64 (fWrites op)) := by go_simp
      go_wp2
      clear hc1 hf1 hc2 hf2 hb1 hb2
      go_loopw [29] (fun i wr => ∃ (k : Nat) (z : Int), (k = 0 ∧ z = 0 ∨ k = 1 ∧ z = 1 ∨ k = 2 ∧ z = 2 ∨ k = 3 ∧ z = 3) ∧ i = .int .i64 z ∧ Below w2.heap.size w2 wr ∧ FldPre (fIs op) d s t k) (fun i _ => (3 - intOf i).toNat)
      case atStart => exact ⟨0, 0, .inl ⟨rfl, rfl⟩, rfl, Below.refl _ _, pre_0 _ _ _ _⟩
      case round =>
        obtain ⟨k, z, hkc, rfl, hbr, hf⟩ := hrel
        have hr1 : w.heap.size < wr.heap.size := by have := hbr.size; omega
        have hr2 : w1.heap.size < wr.heap.size := by have := hbr.size; omega
        replace g0 := cell_later hbr g0
        replace g1 := cell_later hbr g1
        replace g2 := cell_later hbr g2
        replace g3 := cell_later hbr g3
        replace g4 := cell_later hbr g4
        replace g5 := cell_later hbr g5
        replace g6 := cell_later hbr g6
        replace g7 := cell_later hbr g7
        replace k0 := cell_later hbr k0
        replace k1 := cell_later hbr k1
        replace k2 := cell_later hbr k2
        replace k3 := cell_later hbr k3
        rcases hkc with ⟨rfl, rfl⟩ | ⟨rfl, rfl⟩ | ⟨rfl, rfl⟩ | ⟨rfl, rfl⟩
        case inl =>
          have hix : ∀ w, (Instr.index 84 (.agg #[.int .i64 1, .int .i64 d, .int .i64 2, .int .i64 s, .int .i64 4, .int .i64 t]) (.int .i64 0)).run Try.prog w = .ok (.agg #[.int .i64 1, .int .i64 d]) w := fun _ => by kernel_rfl
          have hB2 : Below w.heap.size w wr := hB.trans (hbr.mono (by omega))
          by_cases hh : has (fIs op) 1 = true
          · by_cases hx : reg d = true
            · have hf' := pre_1 hf (show fld (fIs op) 1 d = true by simp [fld, hh, hx])
              go_wp2_with (first | (go_at_call 46; refine (register_any _ _).mono ?_; rintro e w' ⟨rfl, rfl⟩) | (go_at_call 45; refine (has_any _ _ _ _ _ _).mono ?_; rintro e w' ⟨rfl, rfl⟩))
              go_roundw
              case rel => exact ⟨1, _, .inr (.inl ⟨rfl, rfl⟩), rfl, (by repeat (first | exact hbr | refine bal ?_ _)), hf'⟩
              case measure => simp [intOf]
            · have hx : reg d = false := by simpa using hx
              have hq : Hid (chk op d s t mb mi ms md imm = false) := by show _ = _; rw [hk.out, show fld (fIs op) 1 d = false by simp [fld, hh, hx]]; simp
              go_wp2_with (first | (go_at_call 46; refine (register_any _ _).mono ?_; rintro e w' ⟨rfl, rfl⟩) | (go_at_call 45; refine (has_any _ _ _ _ _ _).mono ?_; rintro e w' ⟨rfl, rfl⟩))
              go_ret
              exact ⟨ret_int (by rw [hq.out]; rfl), bal (bal hB2 _) _⟩
          · have hh : has (fIs op) 1 = false := by simpa using hh
            by_cases hx : d = 0
            · have hx' : (d != 0) = false := by simpa using hx
              have hf' := pre_1 hf (show fld (fIs op) 1 d = true by simp [fld, hh, hx])
              clear hx
              go_wp2_with (first | (go_at_call 46; refine (register_any _ _).mono ?_; rintro e w' ⟨rfl, rfl⟩) | (go_at_call 45; refine (has_any _ _ _ _ _ _).mono ?_; rintro e w' ⟨rfl, rfl⟩))
              go_roundw
              case rel => exact ⟨1, _, .inr (.inl ⟨rfl, rfl⟩), rfl, (by repeat (first | exact hbr | refine bal ?_ _)), hf'⟩
              case measure => simp [intOf]
            · have hx' : (d != 0) = true := by simpa using hx
              have hq : Hid (chk op d s t mb mi ms md imm = false) := by show _ = _; rw [hk.out, show fld (fIs op) 1 d = false by simp [fld, hh, hx]]; simp
              clear hx
              go_wp2_with (first | (go_at_call 46; refine (register_any _ _).mono ?_; rintro e w' ⟨rfl, rfl⟩) | (go_at_call 45; refine (has_any _ _ _ _ _ _).mono ?_; rintro e w' ⟨rfl, rfl⟩))
              go_ret
              exact ⟨ret_int (by rw [hq.out]; rfl), bal (bal (bal hB2 _) _) _⟩
        case inr.inl =>
          have hix : ∀ w, (Instr.index 84 (.agg #[.int .i64 1, .int .i64 d, .int .i64 2, .int .i64 s, .int .i64 4, .int .i64 t]) (.int .i64 1)).run Try.prog w = .ok (.agg #[.int .i64 2, .int .i64 s]) w := fun _ => by kernel_rfl
          have hB2 : Below w.heap.size w wr := hB.trans (hbr.mono (by omega))
          by_cases hh : has (fIs op) 2 = true
          · by_cases hx : reg s = true
            · have hf' := pre_2 hf (show fld (fIs op) 2 s = true by simp [fld, hh, hx])
              go_wp2_with (first | (go_at_call 46; refine (register_any _ _).mono ?_; rintro e w' ⟨rfl, rfl⟩) | (go_at_call 45; refine (has_any _ _ _ _ _ _).mono ?_; rintro e w' ⟨rfl, rfl⟩))
              go_roundw
              case rel => exact ⟨2, _, .inr (.inr (.inl ⟨rfl, rfl⟩)), rfl, (by repeat (first | exact hbr | refine bal ?_ _)), hf'⟩
              case measure => simp [intOf]
            · have hx : reg s = false := by simpa using hx
              have hq : Hid (chk op d s t mb mi ms md imm = false) := by show _ = _; rw [hk.out, show fld (fIs op) 2 s = false by simp [fld, hh, hx]]; simp
              go_wp2_with (first | (go_at_call 46; refine (register_any _ _).mono ?_; rintro e w' ⟨rfl, rfl⟩) | (go_at_call 45; refine (has_any _ _ _ _ _ _).mono ?_; rintro e w' ⟨rfl, rfl⟩))
              go_ret
              exact ⟨ret_int (by rw [hq.out]; rfl), bal (bal hB2 _) _⟩
          · have hh : has (fIs op) 2 = false := by simpa using hh
            by_cases hx : s = 0
            · have hx' : (s != 0) = false := by simpa using hx
              have hf' := pre_2 hf (show fld (fIs op) 2 s = true by simp [fld, hh, hx])
              clear hx
              go_wp2_with (first | (go_at_call 46; refine (register_any _ _).mono ?_; rintro e w' ⟨rfl, rfl⟩) | (go_at_call 45; refine (has_any _ _ _ _ _ _).mono ?_; rintro e w' ⟨rfl, rfl⟩))
              go_roundw
              case rel => exact ⟨2, _, .inr (.inr (.inl ⟨rfl, rfl⟩)), rfl, (by repeat (first | exact hbr | refine bal ?_ _)), hf'⟩
              case measure => simp [intOf]
            · have hx' : (s != 0) = true := by simpa using hx
              have hq : Hid (chk op d s t mb mi ms md imm = false) := by show _ = _; rw [hk.out, show fld (fIs op) 2 s = false by simp [fld, hh, hx]]; simp
              clear hx
              go_wp2_with (first | (go_at_call 46; refine (register_any _ _).mono ?_; rintro e w' ⟨rfl, rfl⟩) | (go_at_call 45; refine (has_any _ _ _ _ _ _).mono ?_; rintro e w' ⟨rfl, rfl⟩))
              go_ret
              exact ⟨ret_int (by rw [hq.out]; rfl), bal (bal (bal hB2 _) _) _⟩
        case inr.inr.inl =>
          have hix : ∀ w, (Instr.index 84 (.agg #[.int .i64 1, .int .i64 d, .int .i64 2, .int .i64 s, .int .i64 4, .int .i64 t]) (.int .i64 2)).run Try.prog w = .ok (.agg #[.int .i64 4, .int .i64 t]) w := fun _ => by kernel_rfl
          have hB2 : Below w.heap.size w wr := hB.trans (hbr.mono (by omega))
          by_cases hh : has (fIs op) 4 = true
          · by_cases hx : reg t = true
            · have hf' := pre_3 hf (show fld (fIs op) 4 t = true by simp [fld, hh, hx])
              go_wp2_with (first | (go_at_call 46; refine (register_any _ _).mono ?_; rintro e w' ⟨rfl, rfl⟩) | (go_at_call 45; refine (has_any _ _ _ _ _ _).mono ?_; rintro e w' ⟨rfl, rfl⟩))
              go_roundw
              case rel => exact ⟨3, _, .inr (.inr (.inr ⟨rfl, rfl⟩)), rfl, (by repeat (first | exact hbr | refine bal ?_ _)), hf'⟩
              case measure => simp [intOf]
            · have hx : reg t = false := by simpa using hx
              have hq : Hid (chk op d s t mb mi ms md imm = false) := by show _ = _; rw [hk.out, show fld (fIs op) 4 t = false by simp [fld, hh, hx]]; simp
              go_wp2_with (first | (go_at_call 46; refine (register_any _ _).mono ?_; rintro e w' ⟨rfl, rfl⟩) | (go_at_call 45; refine (has_any _ _ _ _ _ _).mono ?_; rintro e w' ⟨rfl, rfl⟩))
              go_ret
              exact ⟨ret_int (by rw [hq.out]; rfl), bal (bal hB2 _) _⟩
          · have hh : has (fIs op) 4 = false := by simpa using hh
            by_cases hx : t = 0
            · have hx' : (t != 0) = false := by simpa using hx
              have hf' := pre_3 hf (show fld (fIs op) 4 t = true by simp [fld, hh, hx])
              clear hx
              go_wp2_with (first | (go_at_call 46; refine (register_any _ _).mono ?_; rintro e w' ⟨rfl, rfl⟩) | (go_at_call 45; refine (has_any _ _ _ _ _ _).mono ?_; rintro e w' ⟨rfl, rfl⟩))
              go_roundw
              case rel => exact ⟨3, _, .inr (.inr (.inr ⟨rfl, rfl⟩)), rfl, (by repeat (first | exact hbr | refine bal ?_ _)), hf'⟩
              case measure => simp [intOf]
            · have hx' : (t != 0) = true := by simpa using hx
              have hq : Hid (chk op d s t mb mi ms md imm = false) := by show _ = _; rw [hk.out, show fld (fIs op) 4 t = false by simp [fld, hh, hx]]; simp
              clear hx
              go_wp2_with (first | (go_at_call 46; refine (register_any _ _).mono ?_; rintro e w' ⟨rfl, rfl⟩) | (go_at_call 45; refine (has_any _ _ _ _ _ _).mono ?_; rintro e w' ⟨rfl, rfl⟩))
              go_ret
              exact ⟨ret_int (by rw [hq.out]; rfl), bal (bal (bal hB2 _) _) _⟩
        case inr.inr.inr =>
          have hB2 : Below w.heap.size w wr := hB.trans (hbr.mono (by omega))
          have hd1 := hf.1 (by omega)
          have hd2 := hf.2.1 (by omega)
          have hd3 := hf.2.2 (by omega)
          have hk' : Hid (chk op d s t mb mi ms md imm = (memOk (fIs op) mb mi ms md && !(has (fIs op) 4 && d == s))) := by show _ = _; rw [hk.out, hN, hM, hd1, hd2, hd3]; rfl
          clear hd1 hd2 hd3 hf
          have hr3 : w.heap.size < wr.heap.size + 1 + 1 := by omega
          have hr4 : w1.heap.size < wr.heap.size + 1 + 1 := by omega
          by_cases h8 : has (fIs op) 8 = true
          · cases hp : plc mb mi ms md with
            | false =>
              have hq : Hid (chk op d s t mb mi ms md imm = false) := by show _ = _; rw [hk'.out, show memOk (fIs op) mb mi ms md = false by simp [memOk, h8, hp]]; rfl
              go_wp2_with (first | (go_at_call 45; refine (has_any _ _ _ _ _ _).mono ?_; rintro e w' ⟨rfl, rfl⟩) | (go_at_call 47; refine (place_any _ _ _ _ _ hd).mono ?_; rintro e w' ⟨rfl, hbp⟩; obtain ⟨hcp, hfp⟩ := bcell hbp; have hzp := hbp.size; simp at hzp; have hzq : w.heap.size < w'.heap.size := (by omega); have hzr : w1.heap.size < w'.heap.size := (by omega)))
              go_ret
              exact ⟨ret_int (by rw [hq.out]; rfl), (by repeat (first | exact hB2 | refine bal ?_ _ | refine bel_trans ?_ hbp))⟩
            | true =>
              by_cases h4 : has (fIs op) 4 = true
              · by_cases hds : d = s
                · have hds' : (d == s) = true := by simpa using hds
                  have hq : Hid (chk op d s t mb mi ms md imm = false) := by show _ = _; rw [hk'.out, h4, hds']; simp
                  clear hds
                  go_wp2_with (first | (go_at_call 45; refine (has_any _ _ _ _ _ _).mono ?_; rintro e w' ⟨rfl, rfl⟩) | (go_at_call 47; refine (place_any _ _ _ _ _ hd).mono ?_; rintro e w' ⟨rfl, hbp⟩; obtain ⟨hcp, hfp⟩ := bcell hbp; have hzp := hbp.size; simp at hzp; have hzq : w.heap.size < w'.heap.size := (by omega); have hzr : w1.heap.size < w'.heap.size := (by omega)))
                  go_ret
                  exact ⟨ret_int (by rw [hq.out]; rfl), (by repeat (first | exact hB2 | refine bal ?_ _ | refine bel_trans ?_ hbp))⟩
                · have hds' : (d == s) = false := by simpa using hds
                  have hq : Hid (chk op d s t mb mi ms md imm = true) := by show _ = _; rw [hk'.out, show memOk (fIs op) mb mi ms md = true by simp [memOk, h8, hp], hds']; simp
                  clear hds
                  go_wp2_with (first | (go_at_call 45; refine (has_any _ _ _ _ _ _).mono ?_; rintro e w' ⟨rfl, rfl⟩) | (go_at_call 47; refine (place_any _ _ _ _ _ hd).mono ?_; rintro e w' ⟨rfl, hbp⟩; obtain ⟨hcp, hfp⟩ := bcell hbp; have hzp := hbp.size; simp at hzp; have hzq : w.heap.size < w'.heap.size := (by omega); have hzr : w1.heap.size < w'.heap.size := (by omega)))
                  go_ret
                  exact ⟨ret_int (by rw [hq.out]; rfl), (by repeat (first | exact hB2 | refine bal ?_ _ | refine bel_trans ?_ hbp))⟩
              · have h4 : has (fIs op) 4 = false := by simpa using h4
                have hq : Hid (chk op d s t mb mi ms md imm = true) := by show _ = _; rw [hk'.out, show memOk (fIs op) mb mi ms md = true by simp [memOk, h8, hp], h4]; simp
                go_wp2_with (first | (go_at_call 45; refine (has_any _ _ _ _ _ _).mono ?_; rintro e w' ⟨rfl, rfl⟩) | (go_at_call 47; refine (place_any _ _ _ _ _ hd).mono ?_; rintro e w' ⟨rfl, hbp⟩; obtain ⟨hcp, hfp⟩ := bcell hbp; have hzp := hbp.size; simp at hzp; have hzq : w.heap.size < w'.heap.size := (by omega); have hzr : w1.heap.size < w'.heap.size := (by omega)))
                go_ret
                exact ⟨ret_int (by rw [hq.out]; rfl), (by repeat (first | exact hB2 | refine bal ?_ _ | refine bel_trans ?_ hbp))⟩
          · have h8 : has (fIs op) 8 = false := by simpa using h8
            cases hp : memZ mb mi ms md with
            | false =>
              have hq : Hid (chk op d s t mb mi ms md imm = false) := by show _ = _; rw [hk'.out, show memOk (fIs op) mb mi ms md = false by simp [memOk, h8, hp]]; rfl
              have hmq : ∀ w, (binOp .neq 23 (.agg #[.int .i64 mb, .int .i64 mi, .int .i64 ms, .int .i64 md]) (.agg #[.int .i64 0, .int .i64 0, .int .i64 0, .int .i64 0])).run Try.prog w = .ok (.bool true) w := fun w => by rw [mem_neq, hp]; rfl
              go_wp2_with (first | (go_at_call 45; refine (has_any _ _ _ _ _ _).mono ?_; rintro e w' ⟨rfl, rfl⟩) | (go_at_call 47; refine (place_any _ _ _ _ _ hd).mono ?_; rintro e w' ⟨rfl, hbp⟩; obtain ⟨hcp, hfp⟩ := bcell hbp; have hzp := hbp.size; simp at hzp; have hzq : w.heap.size < w'.heap.size := (by omega); have hzr : w1.heap.size < w'.heap.size := (by omega)))
              go_ret
              exact ⟨ret_int (by rw [hq.out]; rfl), (by repeat (first | exact hB2 | refine bal ?_ _))⟩
            | true =>
              have hmq : ∀ w, (binOp .neq 23 (.agg #[.int .i64 mb, .int .i64 mi, .int .i64 ms, .int .i64 md]) (.agg #[.int .i64 0, .int .i64 0, .int .i64 0, .int .i64 0])).run Try.prog w = .ok (.bool false) w := fun w => by rw [mem_neq, hp]; rfl
              by_cases h4 : has (fIs op) 4 = true
              · by_cases hds : d = s
                · have hds' : (d == s) = true := by simpa using hds
                  have hq : Hid (chk op d s t mb mi ms md imm = false) := by show _ = _; rw [hk'.out, h4, hds']; simp
                  clear hds
                  go_wp2_with (first | (go_at_call 45; refine (has_any _ _ _ _ _ _).mono ?_; rintro e w' ⟨rfl, rfl⟩) | (go_at_call 47; refine (place_any _ _ _ _ _ hd).mono ?_; rintro e w' ⟨rfl, hbp⟩; obtain ⟨hcp, hfp⟩ := bcell hbp; have hzp := hbp.size; simp at hzp; have hzq : w.heap.size < w'.heap.size := (by omega); have hzr : w1.heap.size < w'.heap.size := (by omega)))
                  go_ret
                  exact ⟨ret_int (by rw [hq.out]; rfl), (by repeat (first | exact hB2 | refine bal ?_ _))⟩
                · have hds' : (d == s) = false := by simpa using hds
                  have hq : Hid (chk op d s t mb mi ms md imm = true) := by show _ = _; rw [hk'.out, show memOk (fIs op) mb mi ms md = true by simp [memOk, h8, hp], hds']; simp
                  clear hds
                  go_wp2_with (first | (go_at_call 45; refine (has_any _ _ _ _ _ _).mono ?_; rintro e w' ⟨rfl, rfl⟩) | (go_at_call 47; refine (place_any _ _ _ _ _ hd).mono ?_; rintro e w' ⟨rfl, hbp⟩; obtain ⟨hcp, hfp⟩ := bcell hbp; have hzp := hbp.size; simp at hzp; have hzq : w.heap.size < w'.heap.size := (by omega); have hzr : w1.heap.size < w'.heap.size := (by omega)))
                  go_ret
                  exact ⟨ret_int (by rw [hq.out]; rfl), (by repeat (first | exact hB2 | refine bal ?_ _))⟩
              · have h4 : has (fIs op) 4 = false := by simpa using h4
                have hq : Hid (chk op d s t mb mi ms md imm = true) := by show _ = _; rw [hk'.out, show memOk (fIs op) mb mi ms md = true by simp [memOk, h8, hp], h4]; simp
                go_wp2_with (first | (go_at_call 45; refine (has_any _ _ _ _ _ _).mono ?_; rintro e w' ⟨rfl, rfl⟩) | (go_at_call 47; refine (place_any _ _ _ _ _ hd).mono ?_; rintro e w' ⟨rfl, hbp⟩; obtain ⟨hcp, hfp⟩ := bcell hbp; have hzp := hbp.size; simp at hzp; have hzq : w.heap.size < w'.heap.size := (by omega); have hzr : w1.heap.size < w'.heap.size := (by omega)))
                go_ret
                exact ⟨ret_int (by rw [hq.out]; rfl), (by repeat (first | exact hB2 | refine bal ?_ _))⟩
end Go.Proofs.Ytakmpnmmcjnecaa
