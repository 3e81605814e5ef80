/- keysmithlaw06.EncodeCalls: the walk. Conditions: the numbers are numbers of 64 bits. -/
import Derived.Test.YtakmpnmmcjnecaaFrameS
import Derived.Test.YtakmpnmmcjnecaaRef6
import Derived.Test.YtakmpnmmcjnecaaEApart
namespace Go.Proofs.Ytakmpnmmcjnecaa
open Go.RowKit Calm

set_option maxRecDepth 100000 in
theorem rall_empty (a : Option Addr) (cap : Nat) (w : World) :
    Calls Try.prog 22 #[.slice a 0 cap] w fun e w' => e = .returned (.tuple #[.string ⟨#[]⟩, .int .i64 0]) ∧ Below w.heap.size w w' := by
  go_enter Try.func22, Try.ntmps22
  go_wp2_with fail
  go_loopw [4, 5] (fun v i wr => v = .string ⟨#[]⟩ ∧ i = .int .i64 0 ∧ w = wr) (fun _ _ _ => 0)
  case atStart => exact ⟨rfl, rfl, rfl⟩
  case round =>
    obtain ⟨rfl, rfl, rfl⟩ := hrel
    go_wp2_with fail
    go_ret2
    exact ⟨rfl, Below.refl _ _⟩
theorem insts_rall {W : World} {v : Value} {l : List Ins} (h : Insts W v l) (hl : l.length ≤ 1000) (w : World) (hb : Below W.heap.size W w) :
    Calls Try.prog 22 #[v] w fun e w' => e = .returned (.tuple #[.string (outs l), .int .i64 (errOf (allOk l))]) ∧ Below w.heap.size w w' := by
  obtain ⟨hok, ⟨rfl, a, cap, rfl⟩ | ⟨b, off, cap, rfl, hr, hlt⟩⟩ := h
  · exact rall_empty a cap w
  · refine rall_any b off cap l w hl hok (fun j x hx k v hv => ?_) (Nat.lt_of_lt_of_le hlt hb.size)
    rw [hb.cell (p := ⟨b, off + j * 9 + k, none⟩) hlt]; exact hr j x hx k v hv
set_option maxRecDepth 100000 in
set_option maxHeartbeats 2000000 in
theorem eCalls_many (op d s t mb mi ms md imm : Int) (a : Option Addr) (n cap : Nat) (w : World) (hn : decide ((n : Int) > 40) = true) :
    Calls Try.prog 6 #[.agg #[.int .i64 op, .int .i64 d, .int .i64 s, .int .i64 t, .int .i64 mb, .int .i64 mi, .int .i64 ms, .int .i64 md, .int .i64 imm], .slice a n cap] w fun e w' => e = .returned (.bool true) ∧ Below w.heap.size w w' := by
  go_enter Try.func6, Try.ntmps6
  go_wp2_with fail
  go_at_call 13
  refine (lives_any _).mono ?_
  rintro e w1 ⟨rfl, hb1⟩
  have hB1 : Below w.heap.size w w1 := (bal (Below.refl _ _) _).trans (hb1.mono (by simp))
  go_wp2_with fail
  go_ret
  exact ⟨rfl, hB1⟩
set_option maxRecDepth 100000 in
set_option maxHeartbeats 4000000 in
theorem eCalls_few (op d s t mb mi ms md imm : Int) (a : Option Addr) (n cap : Nat) (w : World) (hn : decide ((n : Int) > 40) = false) (hm : -9223372036854775808 ≤ md ∧ md ≤ 9223372036854775807) (hi : -9223372036854775808 ≤ imm ∧ imm ≤ 9223372036854775807)
    (A B : ByteArray) (k j : Int) (hA : outE op d s t mb mi ms md imm = A) (hk : errOf (chk op d s t mb mi ms md imm) = k)
    (hall : ∀ w', Below w.heap.size w w' → Calls Try.prog 18 #[.slice a n cap] w' fun e w'' => e = .returned (.tuple #[.string B, .int .i64 j]) ∧ Below w'.heap.size w' w'')
    (hrall : ∀ w', Below w.heap.size w w' → Calls Try.prog 22 #[.slice a n cap] w' fun e w'' => e = .returned (.tuple #[.string B, .int .i64 j]) ∧ Below w'.heap.size w' w'') :
    Calls Try.prog 6 #[.agg #[.int .i64 op, .int .i64 d, .int .i64 s, .int .i64 t, .int .i64 mb, .int .i64 mi, .int .i64 ms, .int .i64 md, .int .i64 imm], .slice a n cap] w fun e w' => e = .returned (.bool true) ∧ Below w.heap.size w w' := by
  go_enter Try.func6, Try.ntmps6
  go_wp2_with fail
  go_at_call 13
  refine (lives_any _).mono ?_
  rintro e w1 ⟨rfl, hb⟩
  have hB : Below w.heap.size w w1 := (bal (Below.refl _ _) _).trans (hb.mono (by simp))
  have hT : At9 w1 w.heap.size op d s t mb mi ms md imm := ⟨cellk hb (by simp) (by go_simp), cellk hb (by simp) (by go_simp), cellk hb (by simp) (by go_simp), cellk hb (by simp) (by go_simp), cellk hb (by simp) (by go_simp), cellk hb (by simp) (by go_simp), cellk hb (by simp) (by go_simp), cellk hb (by simp) (by go_simp), cellk hb (by simp) (by go_simp)⟩
  have hz : w.heap.size < w1.heap.size := by have := hb.size; simp at this; omega
  clear hb
  obtain ⟨f0, f1, f2, f3, f4, f5, f6, f7, f8⟩ := hT
  go_wp2_with fail
  go_at_call 17
  refine (einst_eq _ _ _ _ _ _ _ _ _ _ _ hm hi k hA hk).mono ?_
  rintro e w2 ⟨rfl, hb⟩
  have hT : At9 w2 w.heap.size op d s t mb mi ms md imm := At9.keep ⟨f0, f1, f2, f3, f4, f5, f6, f7, f8⟩ hb hz
  replace hB := hB.trans (hb.mono hB.size)
  replace hz := Nat.lt_of_lt_of_le hz hb.size
  clear hb f0 f1 f2 f3 f4 f5 f6 f7 f8
  obtain ⟨f0, f1, f2, f3, f4, f5, f6, f7, f8⟩ := hT
  go_wp2_with fail
  go_at_call 21
  refine (rinst_eq _ _ _ _ _ _ _ _ _ _ _ hi k hA hk).mono ?_
  rintro e w3 ⟨rfl, hb⟩
  have hT : At9 w3 w.heap.size op d s t mb mi ms md imm := At9.keep ⟨f0, f1, f2, f3, f4, f5, f6, f7, f8⟩ hb hz
  replace hB := hB.trans (hb.mono hB.size)
  replace hz := Nat.lt_of_lt_of_le hz hb.size
  clear hb f0 f1 f2 f3 f4 f5 f6 f7 f8
  go_wp2_with fail
  go_at_call 18
  refine (hall _ hB).mono ?_
  rintro e w4 ⟨rfl, hb⟩
  replace hT := At9.keep hT hb hz
  replace hB := hB.trans (hb.mono hB.size)
  replace hz := Nat.lt_of_lt_of_le hz hb.size
  clear hb
  go_wp2_with fail
  go_at_call 22
  refine (hrall _ hB).mono ?_
  rintro e w5 ⟨rfl, hb⟩
  replace hT := At9.keep hT hb hz
  replace hB := hB.trans (hb.mono hB.size)
  replace hz := Nat.lt_of_lt_of_le hz hb.size
  clear hb hall hrall
  obtain ⟨f0, f1, f2, f3, f4, f5, f6, f7, f8⟩ := hT
  have g1 : (A.toList == A.toList) = true := by simp
  have g2 : (B.toList == B.toList) = true := by simp
  have g3 : (k == k) = true := by simp
  have g4 : (j == j) = true := by simp
  have g5 : ((A.size : Int) == (A.size : Int)) = true := by simp
  go_wp2_with fail
  go_region_held3 (fun V : World => V.cell? ⟨w.heap.size, 0, none⟩ = some (.int .i64 op) ∧ V.cell? ⟨w.heap.size, 1, none⟩ = some (.int .i64 d) ∧ V.cell? ⟨w.heap.size, 2, none⟩ = some (.int .i64 s) ∧ V.cell? ⟨w.heap.size, 3, none⟩ = some (.int .i64 t) ∧ V.cell? ⟨w.heap.size, 4, none⟩ = some (.int .i64 mb) ∧ V.cell? ⟨w.heap.size, 5, none⟩ = some (.int .i64 mi) ∧ V.cell? ⟨w.heap.size, 6, none⟩ = some (.int .i64 ms) ∧ V.cell? ⟨w.heap.size, 7, none⟩ = some (.int .i64 md) ∧ V.cell? ⟨w.heap.size, 8, none⟩ = some (.int .i64 imm))
    (first | exact ⟨f0, f1, f2, f3, f4, f5, f6, f7, f8⟩ | exact hT7 | exact hT6)
    (first | (go_at_call 20; refine (size_any op d s t mb mi ms md imm _ hm hi).mono ?_; rw [hA]; rintro e w6 ⟨rfl, hb6⟩; have hT6 : At9 w6 w.heap.size op d s t mb mi ms md imm := At9.keep (w := w5.drew) ⟨f0, f1, f2, f3, f4, f5, f6, f7, f8⟩ hb6 hz; have hz6 : w.heap.size < w6.heap.size := Nat.lt_of_lt_of_le hz hb6.size; have hB6 : Below w.heap.size w w6 := (below_dr hB).trans (hb6.mono hB.size); clear hb6) | (go_at_call 23; refine (rsize_any op d s t mb mi ms md imm _ hi).mono ?_; rw [hA]; rintro e w7 ⟨rfl, hb7⟩; have hT7 := At9.keep hT6 hb7 hz6; have hB7 := hB6.trans (hb7.mono hB6.size); clear hb7))
  go_wp2_with fail
  go_ret
  exact ⟨rfl, hB7⟩
theorem eCalls_walk (op d s t mb mi ms md imm : Int) (_b0 : I64 op) (_b1 : I64 d) (_b2 : I64 s) (_b3 : I64 t) (_b4 : I64 mb) (_b5 : I64 mi) (_b6 : I64 ms) (b7 : I64 md) (b8 : I64 imm) (v : Value) (l : List Ins) (w : World) (hl : Insts w v l) :
    Calls Try.prog 6 #[instV op d s t mb mi ms md imm, v] w fun e w' => e = .returned (.bool true) ∧ Below w.heap.size w w' := by
  unfold instV
  have hv : ∃ a cap, v = .slice a l.length cap := by
    rcases hl.2 with ⟨rfl, a, cap, rfl⟩ | ⟨b, off, cap, rfl, _⟩
    · exact ⟨a, cap, rfl⟩
    · exact ⟨_, cap, rfl⟩
  obtain ⟨a, cap, rfl⟩ := hv
  by_cases h : (l.length : Int) > 40
  · exact eCalls_many op d s t mb mi ms md imm a l.length cap w (by simpa using h)
  · exact eCalls_few op d s t mb mi ms md imm a l.length cap w (by simpa using h) b7 b8 _ _ _ _ rfl rfl (fun w' hb => insts_all hl (by omega) w' hb) (fun w' hb => insts_rall hl (by omega) w' hb)
end Go.Proofs.Ytakmpnmmcjnecaa
