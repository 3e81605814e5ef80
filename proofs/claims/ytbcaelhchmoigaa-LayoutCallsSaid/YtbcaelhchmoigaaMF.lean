import Derived.Test.YtbcaelhchmoigaaME
import Derived.BigQuiet
import Derived.Laws.BitsAllLaws
set_option maxHeartbeats 2000000
set_option maxRecDepth 100000
set_option linter.unusedVariables false
set_option linter.unusedSimpArgs false
namespace Go.Proofs.Ytbcaelhchmoigaa
open Go.RowKit Calm
structure KeepBut (b : Nat) (w w' : World) : Prop where
  os : w'.os = w.os
  tape : w'.tape = w.tape
  output : w'.output = w.output
  size : w.heap.size ≤ w'.heap.size
  block : ∀ k, k < w.heap.size → k ≠ b → w'.heap[k]? = w.heap[k]?
theorem KeepBut.refl (b : Nat) (w : World) : KeepBut b w w := ⟨rfl, rfl, rfl, Nat.le_refl _, fun _ _ _ => rfl⟩
theorem KeepBut.trans {b : Nat} {x y z : World} (h : KeepBut b x y) (k : KeepBut b y z) : KeepBut b x z :=
  ⟨k.os.trans h.os, k.tape.trans h.tape, k.output.trans h.output, Nat.le_trans h.size k.size, fun i hi hb => (k.block i (Nat.lt_of_lt_of_le hi h.size) hb).trans (h.block i hi hb)⟩
theorem KeepBut.drN {b : Nat} {x y : World} (h : KeepBut b x y) (n : Nat) : KeepBut b x (y.drewN n) := ⟨h.os, h.tape, h.output, h.size, h.block⟩
theorem KeepBut.dr {b : Nat} {x y : World} (h : KeepBut b x y) : KeepBut b x y.drew := ⟨h.os, h.tape, h.output, h.size, h.block⟩
theorem KeepBut.set {b : Nat} {x y : World} (h : KeepBut b x y) (p : Addr) (hp : p.block = b) (u : Value) : KeepBut b x (y.setCell p u) :=
  h.trans ⟨rfl, rfl, rfl, by simp [World.setCell], fun k _ hk => Below.heap_setCell _ _ _ _ (by rw [hp]; exact hk)⟩
theorem KeepBut.alloc {b : Nat} {x y : World} (h : KeepBut b x y) (o : Obj) : KeepBut b x (y.alloc o) :=
  h.trans ⟨rfl, rfl, rfl, by simp, fun k hk _ => Below.heap_alloc _ _ _ hk⟩
def CurN (w : World) (b : Nat) (s : ByteArray) (n : Nat) (k : Bool) : Prop := n ≤ s.size ∧ w.heap[b]? = some (.cells #[.string s, .int .i64 n, .bool k] 112)
def CurA (w : World) (b : Nat) (s : ByteArray) (c : Cur) : Prop := ∃ n, CurN w b s n c.2 ∧ c.1 = (bytesOf s).drop n
theorem drop_nx (s : ByteArray) (n : Nat) (k : Bool) (h : n < s.size) : nx ((bytesOf s).drop n, k) = ((s[n].toNat : Int), (bytesOf s).drop (n + 1), k) := by
  have hl : n < (bytesOf s).length := by rw [bytesOf_length]; exact h
  rw [List.drop_eq_getElem_cons hl, nx_cons]
  have : (bytesOf s)[n] = (s[n].toNat : Int) := by
    have e := List.getElem?_map (f := fun b : UInt8 => (b.toNat : Int)) (l := s.data.toList) (i := n)
    rw [get_list s n h] at e
    have e2 : (bytesOf s)[n]? = some (s[n].toNat : Int) := e
    rw [List.getElem?_eq_getElem hl] at e2
    exact Option.some.inj e2
  rw [this]
theorem drop_end (s : ByteArray) (n : Nat) (k : Bool) (h : n = s.size) : nx ((bytesOf s).drop n, k) = (0, (bytesOf s).drop n, true) := by
  have : (bytesOf s).drop n = [] := by rw [List.drop_eq_nil_iff, bytesOf_length]; omega
  rw [this]; rfl
theorem setCell_heap {w : World} {b i : Nat} {c : Array Value} {t : TypeId} (h : w.heap[b]? = some (.cells c t)) (u : Value) : (w.setCell ⟨b, i, none⟩ u).heap[b]? = some (.cells (c.setIfInBounds i u) t) := by
  simp only [World.setCell, Array.getElem?_modify]
  simp [h]
theorem wrap_nat {n : Int} (h : 0 ≤ n ∧ n ≤ 2000000) : IntKind.i64.wrap n = n := by
  simp only [IntKind.wrap, IntKind.bits, IntKind.signed]
  simp
  split <;> omega
theorem wrap_u8 (x : UInt8) : wrap64 (x.toNat : Int) = (x.toNat : Int) := by
  have := x.toNat_lt
  unfold wrap64; omega
theorem dbyte_lt (b : Nat) (s : ByteArray) (n : Nat) (k : Bool) (w : World) (hn : n < s.size) (h16 : s.size ≤ 1000000) (h : w.heap[b]? = some (.cells #[.string s, .int .i64 n, .bool k] 112)) :
    Calls Try.prog 92 #[.pointer (some ⟨b, 0, none⟩)] w fun e w' => e = .returned (.int .i64 s[n].toNat) ∧ w'.heap[b]? = some (.cells #[.string s, .int .i64 ((n + 1 : Nat) : Int), .bool k] 112) ∧ KeepBut b w w' := by
  have c0 : w.cell? ⟨b, 0, none⟩ = some (.string s) := by unfold World.cell?; rw [h]; rfl
  have c1 : w.cell? ⟨b, 1, none⟩ = some (.int .i64 n) := by unfold World.cell?; rw [h]; rfl
  have c2 : w.cell? ⟨b, 2, none⟩ = some (.bool k) := by unfold World.cell?; rw [h]; rfl
  have z1 : w.frozen? ⟨b, 1, none⟩ = false := by unfold World.frozen?; rw [h]; simp
  have h' := hidd h
  have hne : ((n : Int) == (s.size : Int)) = false := by rw [beq_eq_false_iff_ne]; omega
  clear h
  go_enter Try.func92, Try.ntmps92
  go_wp2_with fail
  go_quiet (fail)
  go_wp2_with fail
  obtain ⟨W, hW⟩ : ∃ W, (w.drewN nq).setCell { block := b, off := 1 } (Value.int IntKind.i64 ((n : Int) + 1)) = W := ⟨_, rfl⟩
  have hWb : W.heap[b]? = some (.cells #[.string s, .int .i64 ((n + 1 : Nat) : Int), .bool k] 112) := by
    rw [← hW, setCell_heap (w := w.drewN nq) (c := #[.string s, .int .i64 n, .bool k]) (t := 112) h'.out]
    simp
  have hWk : KeepBut b w W := by rw [← hW]; exact ((KeepBut.refl b w).drN nq).set _ rfl _
  have d0 : W.cell? ⟨b, 0, none⟩ = some (.string s) := by unfold World.cell?; rw [hWb]; rfl
  have d1 : W.cell? ⟨b, 1, none⟩ = some (.int .i64 ((n : Int) + 1)) := by unfold World.cell?; rw [hWb]; rfl
  rw [hW]
  clear hW c0 c1 c2 z1
  have hw1 : IntKind.i64.wrap ((n : Int) + 1 - 1) = (n : Int) := by rw [show (n : Int) + 1 - 1 = n by omega]; exact wrap_nat (by omega)
  have hbd : (0 : Int) ≤ (n : Int) ∧ (n : Int) < (s.size : Int) := by omega
  go_quiet (fail)
  go_wp2_with fail
  go_ret
  exact ⟨ret_int (wrap_u8 _), hWb, hWk.drN _⟩
theorem dbyte_end (b : Nat) (s : ByteArray) (n : Nat) (k : Bool) (w : World) (hn : n = s.size) (h : w.heap[b]? = some (.cells #[.string s, .int .i64 n, .bool k] 112)) :
    Calls Try.prog 92 #[.pointer (some ⟨b, 0, none⟩)] w fun e w' => e = .returned (.int .i64 0) ∧ w'.heap[b]? = some (.cells #[.string s, .int .i64 n, .bool true] 112) ∧ KeepBut b w w' := by
  have c0 : w.cell? ⟨b, 0, none⟩ = some (.string s) := by unfold World.cell?; rw [h]; rfl
  have c1 : w.cell? ⟨b, 1, none⟩ = some (.int .i64 n) := by unfold World.cell?; rw [h]; rfl
  have c2 : w.cell? ⟨b, 2, none⟩ = some (.bool k) := by unfold World.cell?; rw [h]; rfl
  have z1 : w.frozen? ⟨b, 2, none⟩ = false := by unfold World.frozen?; rw [h]; simp
  have h' := hidd h
  have hne : ((n : Int) == (s.size : Int)) = true := by rw [beq_iff_eq]; omega
  clear h hn
  go_enter Try.func92, Try.ntmps92
  go_wp2_with fail
  go_quiet (fail)
  go_wp2_with fail
  go_ret
  refine ⟨rfl, ?_, ((KeepBut.refl b w).drN _).set _ rfl _⟩
  rw [setCell_heap (w := w.drewN _) (c := #[.string s, .int .i64 n, .bool k]) (t := 112) h'.out]
  simp
theorem dbyte_any (b : Nat) (s : ByteArray) (c : Cur) (w : World) (h16 : s.size ≤ 1000000) (h : CurA w b s c) :
    Calls Try.prog 92 #[.pointer (some ⟨b, 0, none⟩)] w fun e w' => e = .returned (.int .i64 (nx c).1) ∧ CurA w' b s (nx c).2 ∧ KeepBut b w w' := by
  obtain ⟨l, k⟩ := c
  obtain ⟨n, ⟨hn, hh⟩, hl⟩ := h
  simp only at hh hl
  subst hl
  rcases Nat.lt_or_ge n s.size with hlt | hge
  · rw [drop_nx s n k hlt]
    exact (dbyte_lt b s n k w hlt h16 hh).mono fun e w' ⟨h1, h2, h3⟩ => ⟨h1, ⟨n + 1, ⟨hlt, h2⟩, rfl⟩, h3⟩
  · have hn' : n = s.size := by omega
    rw [drop_end s n k hn']
    exact (dbyte_end b s n k w hn' hh).mono fun e w' ⟨h1, h2, h3⟩ => ⟨h1, ⟨n, ⟨hn, h2⟩, rfl⟩, h3⟩
end Go.Proofs.Ytbcaelhchmoigaa
namespace Go.Proofs.Ytbcaelhchmoigaa
open Go.RowKit Calm
def Byte (x : Int) : Prop := 0 ≤ x ∧ x ≤ 255
theorem dand7_fin : ∀ i : Fin 256, bits BinOp.and IntKind.i64 ((i : Nat) : Int) 7 = ((i : Nat) : Int) % 8 := by decide +kernel
theorem dand1_fin : ∀ i : Fin 256, bits BinOp.and IntKind.i64 ((i : Nat) : Int) 1 = ((i : Nat) : Int) % 2 := by decide +kernel
theorem dand15_fin : ∀ i : Fin 256, bits BinOp.and IntKind.i64 ((i : Nat) : Int) 15 = ((i : Nat) : Int) % 16 := by decide +kernel
theorem dand248_fin : ∀ i : Fin 256, bits BinOp.and IntKind.i64 ((i : Nat) : Int) 248 = ((i : Nat) : Int) / 8 * 8 := by decide +kernel
theorem or8_fin : ∀ i : Fin 8, ∀ j : Fin 2, bits BinOp.or IntKind.i64 ((i : Nat) : Int) (((j : Nat) : Int) * 8) = ((i : Nat) : Int) + 8 * ((j : Nat) : Int) := by decide +kernel
theorem dand7 {x : Int} (h : Byte x) : bits BinOp.and IntKind.i64 x 7 = x % 8 := by
  obtain ⟨h1, h2⟩ := h
  have := dand7_fin ⟨x.toNat, by omega⟩
  simpa [Int.toNat_of_nonneg h1] using this
theorem dand1 {x : Int} (h : Byte x) : bits BinOp.and IntKind.i64 x 1 = x % 2 := by
  obtain ⟨h1, h2⟩ := h
  have := dand1_fin ⟨x.toNat, by omega⟩
  simpa [Int.toNat_of_nonneg h1] using this
theorem dand15 {x : Int} (h : Byte x) : bits BinOp.and IntKind.i64 x 15 = x % 16 := by
  obtain ⟨h1, h2⟩ := h
  have := dand15_fin ⟨x.toNat, by omega⟩
  simpa [Int.toNat_of_nonneg h1] using this
theorem dand248 {x : Int} (h : Byte x) : bits BinOp.and IntKind.i64 x 248 = x / 8 * 8 := by
  obtain ⟨h1, h2⟩ := h
  have := dand248_fin ⟨x.toNat, by omega⟩
  simpa [Int.toNat_of_nonneg h1] using this
theorem orI8 {x y : Int} (hx : 0 ≤ x ∧ x ≤ 7) (hy : 0 ≤ y ∧ y ≤ 1) : bits BinOp.or IntKind.i64 x (y * 8) = x + 8 * y := by
  have := or8_fin ⟨x.toNat, by omega⟩ ⟨y.toNat, by omega⟩
  simpa [Int.toNat_of_nonneg hx.1, Int.toNat_of_nonneg hy.1] using this
theorem dmid_any (r rm : Int) (w : World) (hr : Byte r) (hm : Byte rm) : Calls Try.prog 95 #[.int .i64 r, .int .i64 rm] w fun e w' => e = .returned (.int .i64 (midD r rm)) ∧ w' = w := by
  have e1 : bits BinOp.and IntKind.i64 (rm / 8) 7 = rm / 8 % 8 := dand7 (by unfold Byte at *; omega)
  have e2 : bits BinOp.and IntKind.i64 (r / 4) 1 = r / 4 % 2 := dand1 (by unfold Byte at *; omega)
  have e3 := orI8 (x := rm / 8 % 8) (y := r / 4 % 2) (by omega) (by omega)
  go_enter Try.func95, Try.ntmps95
  go_wp2
  go_ret
  exact ⟨rfl, rfl⟩
theorem didx_any (r rm : Int) (w : World) (hr : Byte r) (hm : Byte rm) : Calls Try.prog 120 #[.int .i64 r, .int .i64 rm] w fun e w' => e = .returned (.int .i64 (idxD r rm)) ∧ w' = w := by
  have e1 : bits BinOp.and IntKind.i64 (rm / 8) 7 = rm / 8 % 8 := dand7 (by unfold Byte at *; omega)
  have e2 : bits BinOp.and IntKind.i64 (r / 2) 1 = r / 2 % 2 := dand1 (by unfold Byte at *; omega)
  have e3 := orI8 (x := rm / 8 % 8) (y := r / 2 % 2) (by omega) (by omega)
  go_enter Try.func120, Try.ntmps120
  go_wp2
  go_ret
  exact ⟨rfl, rfl⟩
theorem dlast_any (r rm : Int) (w : World) (hr : Byte r) (hm : Byte rm) : Calls Try.prog 96 #[.int .i64 r, .int .i64 rm] w fun e w' => e = .returned (.int .i64 (lastD r rm)) ∧ w' = w := by
  have e1 : bits BinOp.and IntKind.i64 rm 7 = rm % 8 := dand7 hm
  have e2 : bits BinOp.and IntKind.i64 r 1 = r % 2 := dand1 hr
  have e3 := orI8 (x := rm % 8) (y := r % 2) (by omega) (by omega)
  go_enter Try.func96, Try.ntmps96
  go_wp2
  go_ret
  exact ⟨rfl, rfl⟩
theorem cur_byte {w : World} {b : Nat} {s : ByteArray} {c : Cur} (h : CurA w b s c) : Byte (nx c).1 := by
  obtain ⟨l, k⟩ := c
  obtain ⟨n, _, rfl⟩ := h
  cases e : (bytesOf s).drop n with
  | nil => show 0 ≤ (0 : Int) ∧ (0 : Int) ≤ 255; omega
  | cons x r =>
    have hx : x ∈ bytesOf s := List.mem_of_mem_drop (by rw [e]; exact List.mem_cons_self)
    unfold bytesOf at hx
    obtain ⟨y, _, rfl⟩ := List.mem_map.1 hx
    have := y.toNat_lt
    show 0 ≤ (y.toNat : Int) ∧ (y.toNat : Int) ≤ 255
    omega
def skipD : Nat → Cur → Cur
  | 0, c => c
  | k + 1, c => (nx (skipD k c)).2
theorem valD_skip (k : Nat) (c : Cur) : (valD (k + 1) c).2 = (nx (valD k c).2).2 ∧ (valD (k + 1) c).1 = (valD k c).1 + 256 ^ k * (nx (valD k c).2).1 := by
  induction k generalizing c with
  | zero => simp [valD]
  | succ k ih =>
    obtain ⟨h1, h2⟩ := ih (nx c).2
    constructor
    · rw [valD, h1]; rfl
    · have e1 : (valD (k + 1 + 1) c).1 = (nx c).1 + 256 * (valD (k + 1) (nx c).2).1 := rfl
      have e2 : (valD (k + 1) c).1 = (nx c).1 + 256 * (valD k (nx c).2).1 := rfl
      have e3 : (valD (k + 1) c).2 = (valD k (nx c).2).2 := rfl
      rw [e1, h2, e2, e3, Int.mul_add, Int.pow_succ, Int.add_assoc, Int.mul_comm (256 ^ k) 256, Int.mul_assoc]
theorem dskip_1 (b : Nat) (s : ByteArray) (c : Cur) (w : World) (h16 : s.size ≤ 1000000) (h : CurA w b s c) :
    Calls Try.prog 94 #[.pointer (some ⟨b, 0, none⟩), .int .i64 1] w fun e w' => e = .returned (.pointer (some ⟨b, 0, none⟩)) ∧ CurA w' b s (skipD 1 c) ∧ KeepBut b w w' := by
  go_enter Try.func94, Try.ntmps94
  go_wp2
  go_loopw [6] (fun i wr => ((i = .int .i64 0 ∧ CurA wr b s (skipD 0 c)) ∨ (i = .int .i64 1 ∧ CurA wr b s (skipD 1 c))) ∧ KeepBut b w wr) (fun i _ => 1 - (intOf i).toNat)
  case atStart => exact ⟨.inl ⟨rfl, h⟩, KeepBut.refl _ _⟩
  case round =>
    obtain ⟨hrel, hk⟩ := hrel
    rcases hrel with ⟨rfl, hc⟩ | ⟨rfl, hc⟩
    · go_wp2_with (go_at_call 92; refine (dbyte_any b s _ _ h16 hc).mono ?_; rintro e w' ⟨rfl, hc', hk'⟩)
      go_roundw
      case rel => exact ⟨.inr (⟨rfl, hc'⟩), hk.trans hk'⟩
      case measure => simp [intOf]
    · go_wp2
      go_ret
      exact ⟨rfl, hc, hk⟩
theorem dskip_3 (b : Nat) (s : ByteArray) (c : Cur) (w : World) (h16 : s.size ≤ 1000000) (h : CurA w b s c) :
    Calls Try.prog 94 #[.pointer (some ⟨b, 0, none⟩), .int .i64 3] w fun e w' => e = .returned (.pointer (some ⟨b, 0, none⟩)) ∧ CurA w' b s (skipD 3 c) ∧ KeepBut b w w' := by
  go_enter Try.func94, Try.ntmps94
  go_wp2
  go_loopw [6] (fun i wr => ((i = .int .i64 0 ∧ CurA wr b s (skipD 0 c)) ∨ (i = .int .i64 1 ∧ CurA wr b s (skipD 1 c)) ∨ (i = .int .i64 2 ∧ CurA wr b s (skipD 2 c)) ∨ (i = .int .i64 3 ∧ CurA wr b s (skipD 3 c))) ∧ KeepBut b w wr) (fun i _ => 3 - (intOf i).toNat)
  case atStart => exact ⟨.inl ⟨rfl, h⟩, KeepBut.refl _ _⟩
  case round =>
    obtain ⟨hrel, hk⟩ := hrel
    rcases hrel with ⟨rfl, hc⟩ | ⟨rfl, hc⟩ | ⟨rfl, hc⟩ | ⟨rfl, hc⟩
    · go_wp2_with (go_at_call 92; refine (dbyte_any b s _ _ h16 hc).mono ?_; rintro e w' ⟨rfl, hc', hk'⟩)
      go_roundw
      case rel => exact ⟨.inr (.inl ⟨rfl, hc'⟩), hk.trans hk'⟩
      case measure => simp [intOf]
    · go_wp2_with (go_at_call 92; refine (dbyte_any b s _ _ h16 hc).mono ?_; rintro e w' ⟨rfl, hc', hk'⟩)
      go_roundw
      case rel => exact ⟨.inr (.inr (.inl ⟨rfl, hc'⟩)), hk.trans hk'⟩
      case measure => simp [intOf]
    · go_wp2_with (go_at_call 92; refine (dbyte_any b s _ _ h16 hc).mono ?_; rintro e w' ⟨rfl, hc', hk'⟩)
      go_roundw
      case rel => exact ⟨.inr (.inr (.inr (⟨rfl, hc'⟩))), hk.trans hk'⟩
      case measure => simp [intOf]
    · go_wp2
      go_ret
      exact ⟨rfl, hc, hk⟩
end Go.Proofs.Ytbcaelhchmoigaa
namespace Go.Proofs.Ytbcaelhchmoigaa
open Go.RowKit Calm
theorem or_high (x y : Int) (j : Nat) (hj : j ≤ 56) (hx : 0 ≤ x ∧ x < 2 ^ j) (hy : 0 ≤ y ∧ y ≤ 255) : bits BinOp.or IntKind.u64 x (y * 2 ^ j) = x + 2 ^ j * y := by
  obtain ⟨m, rfl⟩ : ∃ m : Nat, x = m := ⟨x.toNat, by omega⟩
  obtain ⟨n, rfl⟩ : ∃ n : Nat, y = n := ⟨y.toNat, by omega⟩
  have hm : m < 2 ^ j := by have := hx.2; exact_mod_cast this
  have hn : n ≤ 255 := by omega
  have hp : (2 : Nat) ^ j ≤ 2 ^ 56 := Nat.pow_le_pow_right (by decide) hj
  have e : ((n : Int) * 2 ^ j) = ((n * 2 ^ j : Nat) : Int) := by push_cast; rfl
  have hb : n * 2 ^ j < 18446744073709551616 := by
    have h1 : n * 2 ^ j ≤ 255 * 2 ^ 56 := Nat.mul_le_mul hn hp
    have h2 : 255 * 2 ^ 56 < 18446744073709551616 := by decide
    omega
  have ha : m < 18446744073709551616 := by
    have : (2 : Nat) ^ 56 < 18446744073709551616 := by decide
    omega
  rw [e, u64_or_nat _ _ ha hb, Nat.or_comm]
  have := Nat.shiftLeft_add_eq_or_of_lt hm n
  rw [Nat.shiftLeft_eq] at this
  rw [← this]
  push_cast
  rw [Int.mul_comm, Int.add_comm]
def RestB (c : Cur) : Prop := ∀ x ∈ c.1, Byte x
theorem RestB.nx {c : Cur} (h : RestB c) : Byte (nx c).1 ∧ RestB (nx c).2 := by
  obtain ⟨l, k⟩ := c
  cases l with
  | nil => exact ⟨⟨by show (0 : Int) ≤ 0; omega, by show (0 : Int) ≤ 255; omega⟩, fun x hx => by simp [Go.Proofs.Ytbcaelhchmoigaa.nx] at hx⟩
  | cons x r => exact ⟨h x List.mem_cons_self, fun y hy => h y (List.mem_cons_of_mem _ hy)⟩
theorem cur_rest {w : World} {b : Nat} {s : ByteArray} {c : Cur} (h : CurA w b s c) : RestB c := by
  obtain ⟨l, k⟩ := c
  obtain ⟨n, _, rfl⟩ := h
  intro x hx
  have hx := List.mem_of_mem_drop hx
  unfold bytesOf at hx
  obtain ⟨y, _, rfl⟩ := List.mem_map.1 hx
  have := y.toNat_lt
  unfold Byte; omega
theorem rest_val {c : Cur} (h : RestB c) : ∀ k : Nat, RestB (valD k c).2 ∧ 0 ≤ (valD k c).1 ∧ (valD k c).1 < 2 ^ (8 * k)
  | 0 => ⟨h, by show (0 : Int) ≤ 0; omega, by show (0 : Int) < 1; omega⟩
  | k + 1 => by
    obtain ⟨h1, h2, h3⟩ := rest_val h k
    obtain ⟨e1, e2⟩ := valD_skip k c
    obtain ⟨⟨b1, b2⟩, hr⟩ := h1.nx
    refine ⟨by rw [e1]; exact hr, ?_, ?_⟩
    · rw [e2]
      have : (0 : Int) ≤ 256 ^ k * (nx (valD k c).2).1 := Int.mul_nonneg (Int.pow_nonneg (by omega)) b1
      omega
    · rw [e2]
      have hp : (256 : Int) ^ k = 2 ^ (8 * k) := by rw [Int.pow_mul]; rfl
      have hq : (2 : Int) ^ (8 * (k + 1)) = 2 ^ (8 * k) * 256 := by rw [show 8 * (k + 1) = 8 * k + 8 by omega, Int.pow_add]; rfl
      rw [hp, hq]
      have hpos : (0 : Int) < 2 ^ (8 * k) := Int.pow_pos (by omega)
      have : (2 : Int) ^ (8 * k) * (nx (valD k c).2).1 ≤ 2 ^ (8 * k) * 255 := Int.mul_le_mul_of_nonneg_left b2 (by omega)
      omega
theorem val_b {w : World} {b : Nat} {s : ByteArray} {c : Cur} (h : CurA w b s c) (k : Nat) : 0 ≤ (valD k c).1 ∧ (valD k c).1 < 2 ^ (8 * k) := (rest_val (cur_rest h) k).2
theorem sgn_1 (V : Int) (h : 0 ≤ V ∧ V < 256) : wrap64 (V * 72057594037927936) / 72057594037927936 = sgnD 1 V := by
  rcases Int.lt_or_le V (half 1) with h1 | h1
  · rw [sgn_lo h1]; rw [half1] at h1; unfold wrap64; omega
  · rw [sgn_hi h1]; rw [half1] at h1 ⊢; unfold wrap64; omega
theorem sgn_4 (V : Int) (h : 0 ≤ V ∧ V < 4294967296) : wrap64 (V * 4294967296) / 4294967296 = sgnD 4 V := by
  rcases Int.lt_or_le V (half 4) with h1 | h1
  · rw [sgn_lo h1]; rw [half4] at h1; unfold wrap64; omega
  · rw [sgn_hi h1]; rw [half4] at h1 ⊢; unfold wrap64; omega
theorem sgn_8 (V : Int) (h : 0 ≤ V ∧ V < 18446744073709551616) : wrap64 V = sgnD 8 V := by
  rcases Int.lt_or_le V (half 8) with h1 | h1
  · rw [sgn_lo h1]; rw [half8] at h1; unfold wrap64; omega
  · rw [sgn_hi h1]; rw [half8] at h1 ⊢; unfold wrap64; omega
theorem dnumber_1 (b : Nat) (s : ByteArray) (c : Cur) (w : World) (h16 : s.size ≤ 1000000) (h : CurA w b s c) :
    Calls Try.prog 93 #[.pointer (some ⟨b, 0, none⟩), .int .i64 1] w fun e w' => e = .returned (.int .i64 (numD 1 c).1) ∧ CurA w' b s (numD 1 c).2 ∧ KeepBut b w w' := by
  have hv1 := hidd (val_b h 1)
  go_enter Try.func93, Try.ntmps93
  go_wp2
  go_loopw [5, 9] (fun v i wr => ((v = .int .u64 0 ∧ i = .int .i64 0 ∧ CurA wr b s c) ∨ (v = .int .u64 (valD 1 c).1 ∧ i = .int .i64 1 ∧ CurA wr b s (valD 1 c).2)) ∧ KeepBut b w wr) (fun _ i _ => 1 - (intOf i).toNat)
  case atStart => exact ⟨.inl ⟨rfl, rfl, h⟩, KeepBut.refl _ _⟩
  case round =>
    obtain ⟨hrel, hk⟩ := hrel
    rcases hrel with ⟨rfl, rfl, hc⟩ | ⟨rfl, rfl, hc⟩
    · have hB := cur_byte hc
      have hs := valD_skip 0 c
      obtain ⟨B, hBe⟩ : ∃ B, (nx c).1 = B := ⟨_, rfl⟩
      rw [hBe] at hB
      have hB2 : 0 ≤ B ∧ B ≤ 255 := hB
      have hor : bits BinOp.or IntKind.u64 0 B = B := by have := or_high 0 B 0 (by decide) (by decide) hB2; simpa using this
      have hres := hidd (show (valD 1 c).1 = B by rw [hs.2]; show 0 + 256 ^ 0 * (nx c).1 = B; rw [hBe]; omega)
      have hcur := hidd (show (valD 1 c).2 = (nx c).2 from hs.1)
      have hBe' := hidd hBe
      clear hBe hs hB
      go_wp2_with (go_at_call 92; refine (dbyte_any b s _ _ h16 hc).mono ?_; rw [hBe'.out]; rintro e w' ⟨rfl, hc', hk'⟩)
      go_roundw
      case rel => exact ⟨.inr (⟨by rw [hres.out], rfl, by rw [hcur.out]; exact hc'⟩), hk.trans hk'⟩
      case measure => simp [intOf]
    · have hV := hv1.out
      have hsg := hidd (show sgnD 1 (valD 1 c).1 = (numD 1 c).1 from rfl)
      have hcu := hidd (show (numD 1 c).2 = (valD 1 c).2 from rfl)
      obtain ⟨V, hVe⟩ : ∃ V, (valD 1 c).1 = V := ⟨_, rfl⟩
      rw [hVe] at hV hsg ⊢
      clear hVe
      have hV2 : 0 ≤ V ∧ V < 256 := hV
      clear hV
      have hV3 := hidd hV2
      go_wp2
      go_ret
      refine ⟨ret_int ?_, by rw [hcu.out]; exact hc, hk⟩
      rw [← hsg.out]
      exact sgn_1 V hV3.out
theorem dnumber_4 (b : Nat) (s : ByteArray) (c : Cur) (w : World) (h16 : s.size ≤ 1000000) (h : CurA w b s c) :
    Calls Try.prog 93 #[.pointer (some ⟨b, 0, none⟩), .int .i64 4] w fun e w' => e = .returned (.int .i64 (numD 4 c).1) ∧ CurA w' b s (numD 4 c).2 ∧ KeepBut b w w' := by
  have hv1 := hidd (val_b h 1)
  have hv2 := hidd (val_b h 2)
  have hv3 := hidd (val_b h 3)
  have hv4 := hidd (val_b h 4)
  go_enter Try.func93, Try.ntmps93
  go_wp2
  go_loopw [5, 9] (fun v i wr => ((v = .int .u64 0 ∧ i = .int .i64 0 ∧ CurA wr b s c) ∨ (v = .int .u64 (valD 1 c).1 ∧ i = .int .i64 1 ∧ CurA wr b s (valD 1 c).2) ∨ (v = .int .u64 (valD 2 c).1 ∧ i = .int .i64 2 ∧ CurA wr b s (valD 2 c).2) ∨ (v = .int .u64 (valD 3 c).1 ∧ i = .int .i64 3 ∧ CurA wr b s (valD 3 c).2) ∨ (v = .int .u64 (valD 4 c).1 ∧ i = .int .i64 4 ∧ CurA wr b s (valD 4 c).2)) ∧ KeepBut b w wr) (fun _ i _ => 4 - (intOf i).toNat)
  case atStart => exact ⟨.inl ⟨rfl, rfl, h⟩, KeepBut.refl _ _⟩
  case round =>
    obtain ⟨hrel, hk⟩ := hrel
    rcases hrel with ⟨rfl, rfl, hc⟩ | ⟨rfl, rfl, hc⟩ | ⟨rfl, rfl, hc⟩ | ⟨rfl, rfl, hc⟩ | ⟨rfl, rfl, hc⟩
    · have hB := cur_byte hc
      have hs := valD_skip 0 c
      obtain ⟨B, hBe⟩ : ∃ B, (nx c).1 = B := ⟨_, rfl⟩
      rw [hBe] at hB
      have hB2 : 0 ≤ B ∧ B ≤ 255 := hB
      have hor : bits BinOp.or IntKind.u64 0 B = B := by have := or_high 0 B 0 (by decide) (by decide) hB2; simpa using this
      have hres := hidd (show (valD 1 c).1 = B by rw [hs.2]; show 0 + 256 ^ 0 * (nx c).1 = B; rw [hBe]; omega)
      have hcur := hidd (show (valD 1 c).2 = (nx c).2 from hs.1)
      have hBe' := hidd hBe
      clear hBe hs hB
      go_wp2_with (go_at_call 92; refine (dbyte_any b s _ _ h16 hc).mono ?_; rw [hBe'.out]; rintro e w' ⟨rfl, hc', hk'⟩)
      go_roundw
      case rel => exact ⟨.inr (.inl ⟨by rw [hres.out], rfl, by rw [hcur.out]; exact hc'⟩), hk.trans hk'⟩
      case measure => simp [intOf]
    · have hB := cur_byte hc
      have hs := valD_skip 1 c
      have hV := hv1.out
      obtain ⟨B, hBe⟩ : ∃ B, (nx (valD 1 c).2).1 = B := ⟨_, rfl⟩
      obtain ⟨V, hVe⟩ : ∃ V, (valD 1 c).1 = V := ⟨_, rfl⟩
      rw [hBe] at hB
      have hB2 : 0 ≤ B ∧ B ≤ 255 := hB
      rw [hVe] at hV
      have hor : bits BinOp.or IntKind.u64 V (B * 256) = V + 256 * B := or_high V B 8 (by decide) hV hB2
      have hres := hidd (show (valD 2 c).1 = V + 256 * B by rw [hs.2, hVe, hBe]; rfl)
      have hcur := hidd (show (valD 2 c).2 = (nx (valD 1 c).2).2 from hs.1)
      rw [hVe]
      have hBe' := hidd hBe
      clear hBe hVe hs hV hB
      go_wp2_with (go_at_call 92; refine (dbyte_any b s _ _ h16 hc).mono ?_; rw [hBe'.out]; rintro e w' ⟨rfl, hc', hk'⟩)
      go_roundw
      case rel => exact ⟨.inr (.inr (.inl ⟨by rw [hres.out], rfl, by rw [hcur.out]; exact hc'⟩)), hk.trans hk'⟩
      case measure => simp [intOf]
    · have hB := cur_byte hc
      have hs := valD_skip 2 c
      have hV := hv2.out
      obtain ⟨B, hBe⟩ : ∃ B, (nx (valD 2 c).2).1 = B := ⟨_, rfl⟩
      obtain ⟨V, hVe⟩ : ∃ V, (valD 2 c).1 = V := ⟨_, rfl⟩
      rw [hBe] at hB
      have hB2 : 0 ≤ B ∧ B ≤ 255 := hB
      rw [hVe] at hV
      have hor : bits BinOp.or IntKind.u64 V (B * 65536) = V + 65536 * B := or_high V B 16 (by decide) hV hB2
      have hres := hidd (show (valD 3 c).1 = V + 65536 * B by rw [hs.2, hVe, hBe]; rfl)
      have hcur := hidd (show (valD 3 c).2 = (nx (valD 2 c).2).2 from hs.1)
      rw [hVe]
      have hBe' := hidd hBe
      clear hBe hVe hs hV hB
      go_wp2_with (go_at_call 92; refine (dbyte_any b s _ _ h16 hc).mono ?_; rw [hBe'.out]; rintro e w' ⟨rfl, hc', hk'⟩)
      go_roundw
      case rel => exact ⟨.inr (.inr (.inr (.inl ⟨by rw [hres.out], rfl, by rw [hcur.out]; exact hc'⟩))), hk.trans hk'⟩
      case measure => simp [intOf]
    · have hB := cur_byte hc
      have hs := valD_skip 3 c
      have hV := hv3.out
      obtain ⟨B, hBe⟩ : ∃ B, (nx (valD 3 c).2).1 = B := ⟨_, rfl⟩
      obtain ⟨V, hVe⟩ : ∃ V, (valD 3 c).1 = V := ⟨_, rfl⟩
      rw [hBe] at hB
      have hB2 : 0 ≤ B ∧ B ≤ 255 := hB
      rw [hVe] at hV
      have hor : bits BinOp.or IntKind.u64 V (B * 16777216) = V + 16777216 * B := or_high V B 24 (by decide) hV hB2
      have hres := hidd (show (valD 4 c).1 = V + 16777216 * B by rw [hs.2, hVe, hBe]; rfl)
      have hcur := hidd (show (valD 4 c).2 = (nx (valD 3 c).2).2 from hs.1)
      rw [hVe]
      have hBe' := hidd hBe
      clear hBe hVe hs hV hB
      go_wp2_with (go_at_call 92; refine (dbyte_any b s _ _ h16 hc).mono ?_; rw [hBe'.out]; rintro e w' ⟨rfl, hc', hk'⟩)
      go_roundw
      case rel => exact ⟨.inr (.inr (.inr (.inr (⟨by rw [hres.out], rfl, by rw [hcur.out]; exact hc'⟩)))), hk.trans hk'⟩
      case measure => simp [intOf]
    · have hV := hv4.out
      have hsg := hidd (show sgnD 4 (valD 4 c).1 = (numD 4 c).1 from rfl)
      have hcu := hidd (show (numD 4 c).2 = (valD 4 c).2 from rfl)
      obtain ⟨V, hVe⟩ : ∃ V, (valD 4 c).1 = V := ⟨_, rfl⟩
      rw [hVe] at hV hsg ⊢
      clear hVe
      have hV2 : 0 ≤ V ∧ V < 4294967296 := hV
      clear hV
      have hV3 := hidd hV2
      go_wp2
      go_ret
      refine ⟨ret_int ?_, by rw [hcu.out]; exact hc, hk⟩
      rw [← hsg.out]
      exact sgn_4 V hV3.out
theorem dnumber_8 (b : Nat) (s : ByteArray) (c : Cur) (w : World) (h16 : s.size ≤ 1000000) (h : CurA w b s c) :
    Calls Try.prog 93 #[.pointer (some ⟨b, 0, none⟩), .int .i64 8] w fun e w' => e = .returned (.int .i64 (numD 8 c).1) ∧ CurA w' b s (numD 8 c).2 ∧ KeepBut b w w' := by
  have hv1 := hidd (val_b h 1)
  have hv2 := hidd (val_b h 2)
  have hv3 := hidd (val_b h 3)
  have hv4 := hidd (val_b h 4)
  have hv5 := hidd (val_b h 5)
  have hv6 := hidd (val_b h 6)
  have hv7 := hidd (val_b h 7)
  have hv8 := hidd (val_b h 8)
  go_enter Try.func93, Try.ntmps93
  go_wp2
  go_loopw [5, 9] (fun v i wr => ((v = .int .u64 0 ∧ i = .int .i64 0 ∧ CurA wr b s c) ∨ (v = .int .u64 (valD 1 c).1 ∧ i = .int .i64 1 ∧ CurA wr b s (valD 1 c).2) ∨ (v = .int .u64 (valD 2 c).1 ∧ i = .int .i64 2 ∧ CurA wr b s (valD 2 c).2) ∨ (v = .int .u64 (valD 3 c).1 ∧ i = .int .i64 3 ∧ CurA wr b s (valD 3 c).2) ∨ (v = .int .u64 (valD 4 c).1 ∧ i = .int .i64 4 ∧ CurA wr b s (valD 4 c).2) ∨ (v = .int .u64 (valD 5 c).1 ∧ i = .int .i64 5 ∧ CurA wr b s (valD 5 c).2) ∨ (v = .int .u64 (valD 6 c).1 ∧ i = .int .i64 6 ∧ CurA wr b s (valD 6 c).2) ∨ (v = .int .u64 (valD 7 c).1 ∧ i = .int .i64 7 ∧ CurA wr b s (valD 7 c).2) ∨ (v = .int .u64 (valD 8 c).1 ∧ i = .int .i64 8 ∧ CurA wr b s (valD 8 c).2)) ∧ KeepBut b w wr) (fun _ i _ => 8 - (intOf i).toNat)
  case atStart => exact ⟨.inl ⟨rfl, rfl, h⟩, KeepBut.refl _ _⟩
  case round =>
    obtain ⟨hrel, hk⟩ := hrel
    rcases hrel with ⟨rfl, rfl, hc⟩ | ⟨rfl, rfl, hc⟩ | ⟨rfl, rfl, hc⟩ | ⟨rfl, rfl, hc⟩ | ⟨rfl, rfl, hc⟩ | ⟨rfl, rfl, hc⟩ | ⟨rfl, rfl, hc⟩ | ⟨rfl, rfl, hc⟩ | ⟨rfl, rfl, hc⟩
    · have hB := cur_byte hc
      have hs := valD_skip 0 c
      obtain ⟨B, hBe⟩ : ∃ B, (nx c).1 = B := ⟨_, rfl⟩
      rw [hBe] at hB
      have hB2 : 0 ≤ B ∧ B ≤ 255 := hB
      have hor : bits BinOp.or IntKind.u64 0 B = B := by have := or_high 0 B 0 (by decide) (by decide) hB2; simpa using this
      have hres := hidd (show (valD 1 c).1 = B by rw [hs.2]; show 0 + 256 ^ 0 * (nx c).1 = B; rw [hBe]; omega)
      have hcur := hidd (show (valD 1 c).2 = (nx c).2 from hs.1)
      have hBe' := hidd hBe
      clear hBe hs hB
      go_wp2_with (go_at_call 92; refine (dbyte_any b s _ _ h16 hc).mono ?_; rw [hBe'.out]; rintro e w' ⟨rfl, hc', hk'⟩)
      go_roundw
      case rel => exact ⟨.inr (.inl ⟨by rw [hres.out], rfl, by rw [hcur.out]; exact hc'⟩), hk.trans hk'⟩
      case measure => simp [intOf]
    · have hB := cur_byte hc
      have hs := valD_skip 1 c
      have hV := hv1.out
      obtain ⟨B, hBe⟩ : ∃ B, (nx (valD 1 c).2).1 = B := ⟨_, rfl⟩
      obtain ⟨V, hVe⟩ : ∃ V, (valD 1 c).1 = V := ⟨_, rfl⟩
      rw [hBe] at hB
      have hB2 : 0 ≤ B ∧ B ≤ 255 := hB
      rw [hVe] at hV
      have hor : bits BinOp.or IntKind.u64 V (B * 256) = V + 256 * B := or_high V B 8 (by decide) hV hB2
      have hres := hidd (show (valD 2 c).1 = V + 256 * B by rw [hs.2, hVe, hBe]; rfl)
      have hcur := hidd (show (valD 2 c).2 = (nx (valD 1 c).2).2 from hs.1)
      rw [hVe]
      have hBe' := hidd hBe
      clear hBe hVe hs hV hB
      go_wp2_with (go_at_call 92; refine (dbyte_any b s _ _ h16 hc).mono ?_; rw [hBe'.out]; rintro e w' ⟨rfl, hc', hk'⟩)
      go_roundw
      case rel => exact ⟨.inr (.inr (.inl ⟨by rw [hres.out], rfl, by rw [hcur.out]; exact hc'⟩)), hk.trans hk'⟩
      case measure => simp [intOf]
    · have hB := cur_byte hc
      have hs := valD_skip 2 c
      have hV := hv2.out
      obtain ⟨B, hBe⟩ : ∃ B, (nx (valD 2 c).2).1 = B := ⟨_, rfl⟩
      obtain ⟨V, hVe⟩ : ∃ V, (valD 2 c).1 = V := ⟨_, rfl⟩
      rw [hBe] at hB
      have hB2 : 0 ≤ B ∧ B ≤ 255 := hB
      rw [hVe] at hV
      have hor : bits BinOp.or IntKind.u64 V (B * 65536) = V + 65536 * B := or_high V B 16 (by decide) hV hB2
      have hres := hidd (show (valD 3 c).1 = V + 65536 * B by rw [hs.2, hVe, hBe]; rfl)
      have hcur := hidd (show (valD 3 c).2 = (nx (valD 2 c).2).2 from hs.1)
      rw [hVe]
      have hBe' := hidd hBe
      clear hBe hVe hs hV hB
      go_wp2_with (go_at_call 92; refine (dbyte_any b s _ _ h16 hc).mono ?_; rw [hBe'.out]; rintro e w' ⟨rfl, hc', hk'⟩)
      go_roundw
      case rel => exact ⟨.inr (.inr (.inr (.inl ⟨by rw [hres.out], rfl, by rw [hcur.out]; exact hc'⟩))), hk.trans hk'⟩
      case measure => simp [intOf]
    · have hB := cur_byte hc
      have hs := valD_skip 3 c
      have hV := hv3.out
      obtain ⟨B, hBe⟩ : ∃ B, (nx (valD 3 c).2).1 = B := ⟨_, rfl⟩
      obtain ⟨V, hVe⟩ : ∃ V, (valD 3 c).1 = V := ⟨_, rfl⟩
      rw [hBe] at hB
      have hB2 : 0 ≤ B ∧ B ≤ 255 := hB
      rw [hVe] at hV
      have hor : bits BinOp.or IntKind.u64 V (B * 16777216) = V + 16777216 * B := or_high V B 24 (by decide) hV hB2
      have hres := hidd (show (valD 4 c).1 = V + 16777216 * B by rw [hs.2, hVe, hBe]; rfl)
      have hcur := hidd (show (valD 4 c).2 = (nx (valD 3 c).2).2 from hs.1)
      rw [hVe]
      have hBe' := hidd hBe
      clear hBe hVe hs hV hB
      go_wp2_with (go_at_call 92; refine (dbyte_any b s _ _ h16 hc).mono ?_; rw [hBe'.out]; rintro e w' ⟨rfl, hc', hk'⟩)
      go_roundw
      case rel => exact ⟨.inr (.inr (.inr (.inr (.inl ⟨by rw [hres.out], rfl, by rw [hcur.out]; exact hc'⟩)))), hk.trans hk'⟩
      case measure => simp [intOf]
    · have hB := cur_byte hc
      have hs := valD_skip 4 c
      have hV := hv4.out
      obtain ⟨B, hBe⟩ : ∃ B, (nx (valD 4 c).2).1 = B := ⟨_, rfl⟩
      obtain ⟨V, hVe⟩ : ∃ V, (valD 4 c).1 = V := ⟨_, rfl⟩
      rw [hBe] at hB
      have hB2 : 0 ≤ B ∧ B ≤ 255 := hB
      rw [hVe] at hV
      have hor : bits BinOp.or IntKind.u64 V (B * 4294967296) = V + 4294967296 * B := or_high V B 32 (by decide) hV hB2
      have hres := hidd (show (valD 5 c).1 = V + 4294967296 * B by rw [hs.2, hVe, hBe]; rfl)
      have hcur := hidd (show (valD 5 c).2 = (nx (valD 4 c).2).2 from hs.1)
      rw [hVe]
      have hBe' := hidd hBe
      clear hBe hVe hs hV hB
      go_wp2_with (go_at_call 92; refine (dbyte_any b s _ _ h16 hc).mono ?_; rw [hBe'.out]; rintro e w' ⟨rfl, hc', hk'⟩)
      go_roundw
      case rel => exact ⟨.inr (.inr (.inr (.inr (.inr (.inl ⟨by rw [hres.out], rfl, by rw [hcur.out]; exact hc'⟩))))), hk.trans hk'⟩
      case measure => simp [intOf]
    · have hB := cur_byte hc
      have hs := valD_skip 5 c
      have hV := hv5.out
      obtain ⟨B, hBe⟩ : ∃ B, (nx (valD 5 c).2).1 = B := ⟨_, rfl⟩
      obtain ⟨V, hVe⟩ : ∃ V, (valD 5 c).1 = V := ⟨_, rfl⟩
      rw [hBe] at hB
      have hB2 : 0 ≤ B ∧ B ≤ 255 := hB
      rw [hVe] at hV
      have hor : bits BinOp.or IntKind.u64 V (B * 1099511627776) = V + 1099511627776 * B := or_high V B 40 (by decide) hV hB2
      have hres := hidd (show (valD 6 c).1 = V + 1099511627776 * B by rw [hs.2, hVe, hBe]; rfl)
      have hcur := hidd (show (valD 6 c).2 = (nx (valD 5 c).2).2 from hs.1)
      rw [hVe]
      have hBe' := hidd hBe
      clear hBe hVe hs hV hB
      go_wp2_with (go_at_call 92; refine (dbyte_any b s _ _ h16 hc).mono ?_; rw [hBe'.out]; rintro e w' ⟨rfl, hc', hk'⟩)
      go_roundw
      case rel => exact ⟨.inr (.inr (.inr (.inr (.inr (.inr (.inl ⟨by rw [hres.out], rfl, by rw [hcur.out]; exact hc'⟩)))))), hk.trans hk'⟩
      case measure => simp [intOf]
    · have hB := cur_byte hc
      have hs := valD_skip 6 c
      have hV := hv6.out
      obtain ⟨B, hBe⟩ : ∃ B, (nx (valD 6 c).2).1 = B := ⟨_, rfl⟩
      obtain ⟨V, hVe⟩ : ∃ V, (valD 6 c).1 = V := ⟨_, rfl⟩
      rw [hBe] at hB
      have hB2 : 0 ≤ B ∧ B ≤ 255 := hB
      rw [hVe] at hV
      have hor : bits BinOp.or IntKind.u64 V (B * 281474976710656) = V + 281474976710656 * B := or_high V B 48 (by decide) hV hB2
      have hres := hidd (show (valD 7 c).1 = V + 281474976710656 * B by rw [hs.2, hVe, hBe]; rfl)
      have hcur := hidd (show (valD 7 c).2 = (nx (valD 6 c).2).2 from hs.1)
      rw [hVe]
      have hBe' := hidd hBe
      clear hBe hVe hs hV hB
      go_wp2_with (go_at_call 92; refine (dbyte_any b s _ _ h16 hc).mono ?_; rw [hBe'.out]; rintro e w' ⟨rfl, hc', hk'⟩)
      go_roundw
      case rel => exact ⟨.inr (.inr (.inr (.inr (.inr (.inr (.inr (.inl ⟨by rw [hres.out], rfl, by rw [hcur.out]; exact hc'⟩))))))), hk.trans hk'⟩
      case measure => simp [intOf]
    · have hB := cur_byte hc
      have hs := valD_skip 7 c
      have hV := hv7.out
      obtain ⟨B, hBe⟩ : ∃ B, (nx (valD 7 c).2).1 = B := ⟨_, rfl⟩
      obtain ⟨V, hVe⟩ : ∃ V, (valD 7 c).1 = V := ⟨_, rfl⟩
      rw [hBe] at hB
      have hB2 : 0 ≤ B ∧ B ≤ 255 := hB
      rw [hVe] at hV
      have hor : bits BinOp.or IntKind.u64 V (B * 72057594037927936) = V + 72057594037927936 * B := or_high V B 56 (by decide) hV hB2
      have hres := hidd (show (valD 8 c).1 = V + 72057594037927936 * B by rw [hs.2, hVe, hBe]; rfl)
      have hcur := hidd (show (valD 8 c).2 = (nx (valD 7 c).2).2 from hs.1)
      rw [hVe]
      have hBe' := hidd hBe
      clear hBe hVe hs hV hB
      go_wp2_with (go_at_call 92; refine (dbyte_any b s _ _ h16 hc).mono ?_; rw [hBe'.out]; rintro e w' ⟨rfl, hc', hk'⟩)
      go_roundw
      case rel => exact ⟨.inr (.inr (.inr (.inr (.inr (.inr (.inr (.inr (⟨by rw [hres.out], rfl, by rw [hcur.out]; exact hc'⟩)))))))), hk.trans hk'⟩
      case measure => simp [intOf]
    · have hV := hv8.out
      have hsg := hidd (show sgnD 8 (valD 8 c).1 = (numD 8 c).1 from rfl)
      have hcu := hidd (show (numD 8 c).2 = (valD 8 c).2 from rfl)
      obtain ⟨V, hVe⟩ : ∃ V, (valD 8 c).1 = V := ⟨_, rfl⟩
      rw [hVe] at hV hsg ⊢
      clear hVe
      have hV2 : 0 ≤ V ∧ V < 18446744073709551616 := hV
      clear hV
      have hV3 := hidd hV2
      go_wp2
      go_ret
      refine ⟨ret_int ?_, by rw [hcu.out]; exact hc, hk⟩
      rw [← hsg.out]
      exact sgn_8 V hV3.out
end Go.Proofs.Ytbcaelhchmoigaa
