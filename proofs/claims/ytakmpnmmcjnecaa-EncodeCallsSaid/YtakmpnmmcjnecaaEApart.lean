/- keysmithlaw06.EncodeApart: the walk. Conditions: the numbers are numbers of 64 bits. -/
import Derived.Test.YtakmpnmmcjnecaaDecB
import Derived.Test.YtakmpnmmcjnecaaENames
import Derived.Test.YtakmpnmmcjnecaaENumsP
namespace Go.Proofs.Ytakmpnmmcjnecaa
open Go.RowKit Calm

def At9 (w : World) (b : Nat) (op d s t mb mi ms md imm : Int) : Prop :=
  w.cell? ⟨b, 0, none⟩ = some (.int .i64 op) ∧ w.cell? ⟨b, 1, none⟩ = some (.int .i64 d) ∧ w.cell? ⟨b, 2, none⟩ = some (.int .i64 s) ∧ w.cell? ⟨b, 3, none⟩ = some (.int .i64 t) ∧ w.cell? ⟨b, 4, none⟩ = some (.int .i64 mb) ∧ w.cell? ⟨b, 5, none⟩ = some (.int .i64 mi) ∧ w.cell? ⟨b, 6, none⟩ = some (.int .i64 ms) ∧ w.cell? ⟨b, 7, none⟩ = some (.int .i64 md) ∧ w.cell? ⟨b, 8, none⟩ = some (.int .i64 imm)
theorem At9.keep {w w' : World} {b B : Nat} {op d s t mb mi ms md imm : Int} (h : At9 w b op d s t mb mi ms md imm) (hb : Below B w w') (hlt : b < B) : At9 w' b op d s t mb mi ms md imm := by
  obtain ⟨h0, h1, h2, h3, h4, h5, h6, h7, h8⟩ := h
  exact ⟨cellk hb hlt h0, cellk hb hlt h1, cellk hb hlt h2, cellk hb hlt h3, cellk hb hlt h4, cellk hb hlt h5, cellk hb hlt h6, cellk hb hlt h7, cellk hb hlt h8⟩
theorem inst_eql_same (op d s t mb mi ms md imm : Int) (w : World) : (binOp .eql 25 (.agg #[.int .i64 op, .int .i64 d, .int .i64 s, .int .i64 t, .int .i64 mb, .int .i64 mi, .int .i64 ms, .int .i64 md, .int .i64 imm]) (.agg #[.int .i64 op, .int .i64 d, .int .i64 s, .int .i64 t, .int .i64 mb, .int .i64 mi, .int .i64 ms, .int .i64 md, .int .i64 imm])).run Try.prog w = .ok (.bool true) w := by go_simp
theorem inst_eql_0 (op d s t mb mi ms md imm op2 d2 s2 t2 mb2 mi2 ms2 md2 imm2 : Int) (w : World) (h : (op == op2) = false) : (binOp .eql 25 (.agg #[.int .i64 op, .int .i64 d, .int .i64 s, .int .i64 t, .int .i64 mb, .int .i64 mi, .int .i64 ms, .int .i64 md, .int .i64 imm]) (.agg #[.int .i64 op2, .int .i64 d2, .int .i64 s2, .int .i64 t2, .int .i64 mb2, .int .i64 mi2, .int .i64 ms2, .int .i64 md2, .int .i64 imm2])).run Try.prog w = .ok (.bool false) w := by go_simp
theorem inst_eql_1 (op d s t mb mi ms md imm d2 s2 t2 mb2 mi2 ms2 md2 imm2 : Int) (w : World) (h : (d == d2) = false) : (binOp .eql 25 (.agg #[.int .i64 op, .int .i64 d, .int .i64 s, .int .i64 t, .int .i64 mb, .int .i64 mi, .int .i64 ms, .int .i64 md, .int .i64 imm]) (.agg #[.int .i64 op, .int .i64 d2, .int .i64 s2, .int .i64 t2, .int .i64 mb2, .int .i64 mi2, .int .i64 ms2, .int .i64 md2, .int .i64 imm2])).run Try.prog w = .ok (.bool false) w := by go_simp
theorem inst_eql_2 (op d s t mb mi ms md imm s2 t2 mb2 mi2 ms2 md2 imm2 : Int) (w : World) (h : (s == s2) = false) : (binOp .eql 25 (.agg #[.int .i64 op, .int .i64 d, .int .i64 s, .int .i64 t, .int .i64 mb, .int .i64 mi, .int .i64 ms, .int .i64 md, .int .i64 imm]) (.agg #[.int .i64 op, .int .i64 d, .int .i64 s2, .int .i64 t2, .int .i64 mb2, .int .i64 mi2, .int .i64 ms2, .int .i64 md2, .int .i64 imm2])).run Try.prog w = .ok (.bool false) w := by go_simp
theorem inst_eql_3 (op d s t mb mi ms md imm t2 mb2 mi2 ms2 md2 imm2 : Int) (w : World) (h : (t == t2) = false) : (binOp .eql 25 (.agg #[.int .i64 op, .int .i64 d, .int .i64 s, .int .i64 t, .int .i64 mb, .int .i64 mi, .int .i64 ms, .int .i64 md, .int .i64 imm]) (.agg #[.int .i64 op, .int .i64 d, .int .i64 s, .int .i64 t2, .int .i64 mb2, .int .i64 mi2, .int .i64 ms2, .int .i64 md2, .int .i64 imm2])).run Try.prog w = .ok (.bool false) w := by go_simp
theorem inst_eql_4 (op d s t mb mi ms md imm mb2 mi2 ms2 md2 imm2 : Int) (w : World) (h : (mb == mb2) = false) : (binOp .eql 25 (.agg #[.int .i64 op, .int .i64 d, .int .i64 s, .int .i64 t, .int .i64 mb, .int .i64 mi, .int .i64 ms, .int .i64 md, .int .i64 imm]) (.agg #[.int .i64 op, .int .i64 d, .int .i64 s, .int .i64 t, .int .i64 mb2, .int .i64 mi2, .int .i64 ms2, .int .i64 md2, .int .i64 imm2])).run Try.prog w = .ok (.bool false) w := by go_simp
theorem inst_eql_5 (op d s t mb mi ms md imm mi2 ms2 md2 imm2 : Int) (w : World) (h : (mi == mi2) = false) : (binOp .eql 25 (.agg #[.int .i64 op, .int .i64 d, .int .i64 s, .int .i64 t, .int .i64 mb, .int .i64 mi, .int .i64 ms, .int .i64 md, .int .i64 imm]) (.agg #[.int .i64 op, .int .i64 d, .int .i64 s, .int .i64 t, .int .i64 mb, .int .i64 mi2, .int .i64 ms2, .int .i64 md2, .int .i64 imm2])).run Try.prog w = .ok (.bool false) w := by go_simp
theorem inst_eql_6 (op d s t mb mi ms md imm ms2 md2 imm2 : Int) (w : World) (h : (ms == ms2) = false) : (binOp .eql 25 (.agg #[.int .i64 op, .int .i64 d, .int .i64 s, .int .i64 t, .int .i64 mb, .int .i64 mi, .int .i64 ms, .int .i64 md, .int .i64 imm]) (.agg #[.int .i64 op, .int .i64 d, .int .i64 s, .int .i64 t, .int .i64 mb, .int .i64 mi, .int .i64 ms2, .int .i64 md2, .int .i64 imm2])).run Try.prog w = .ok (.bool false) w := by go_simp
theorem inst_eql_7 (op d s t mb mi ms md imm md2 imm2 : Int) (w : World) (h : (md == md2) = false) : (binOp .eql 25 (.agg #[.int .i64 op, .int .i64 d, .int .i64 s, .int .i64 t, .int .i64 mb, .int .i64 mi, .int .i64 ms, .int .i64 md, .int .i64 imm]) (.agg #[.int .i64 op, .int .i64 d, .int .i64 s, .int .i64 t, .int .i64 mb, .int .i64 mi, .int .i64 ms, .int .i64 md2, .int .i64 imm2])).run Try.prog w = .ok (.bool false) w := by go_simp
theorem inst_eql_8 (op d s t mb mi ms md imm imm2 : Int) (w : World) (h : (imm == imm2) = false) : (binOp .eql 25 (.agg #[.int .i64 op, .int .i64 d, .int .i64 s, .int .i64 t, .int .i64 mb, .int .i64 mi, .int .i64 ms, .int .i64 md, .int .i64 imm]) (.agg #[.int .i64 op, .int .i64 d, .int .i64 s, .int .i64 t, .int .i64 mb, .int .i64 mi, .int .i64 ms, .int .i64 md, .int .i64 imm2])).run Try.prog w = .ok (.bool false) w := by go_simp
theorem inst_eql_not (op d s t mb mi ms md imm op2 d2 s2 t2 mb2 mi2 ms2 md2 imm2 : Int) (w : World) (h : (⟨op, d, s, t, mb, mi, ms, md, imm⟩ : Ins) ≠ ⟨op2, d2, s2, t2, mb2, mi2, ms2, md2, imm2⟩) : (binOp .eql 25 (.agg #[.int .i64 op, .int .i64 d, .int .i64 s, .int .i64 t, .int .i64 mb, .int .i64 mi, .int .i64 ms, .int .i64 md, .int .i64 imm]) (.agg #[.int .i64 op2, .int .i64 d2, .int .i64 s2, .int .i64 t2, .int .i64 mb2, .int .i64 mi2, .int .i64 ms2, .int .i64 md2, .int .i64 imm2])).run Try.prog w = .ok (.bool false) w := by
  by_cases h0 : op2 = op
  · subst h0
    by_cases h1 : d2 = d
    · subst h1
      by_cases h2 : s2 = s
      · subst h2
        by_cases h3 : t2 = t
        · subst h3
          by_cases h4 : mb2 = mb
          · subst h4
            by_cases h5 : mi2 = mi
            · subst h5
              by_cases h6 : ms2 = ms
              · subst h6
                by_cases h7 : md2 = md
                · subst h7
                  by_cases h8 : imm2 = imm
                  · subst h8
                    exact absurd rfl h
                  · exact inst_eql_8 op2 d2 s2 t2 mb2 mi2 ms2 md2 imm imm2 w (by simp; omega)
                · exact inst_eql_7 op2 d2 s2 t2 mb2 mi2 ms2 md imm md2 imm2 w (by simp; omega)
              · exact inst_eql_6 op2 d2 s2 t2 mb2 mi2 ms md imm ms2 md2 imm2 w (by simp; omega)
            · exact inst_eql_5 op2 d2 s2 t2 mb2 mi ms md imm mi2 ms2 md2 imm2 w (by simp; omega)
          · exact inst_eql_4 op2 d2 s2 t2 mb mi ms md imm mb2 mi2 ms2 md2 imm2 w (by simp; omega)
        · exact inst_eql_3 op2 d2 s2 t mb mi ms md imm t2 mb2 mi2 ms2 md2 imm2 w (by simp; omega)
      · exact inst_eql_2 op2 d2 s t mb mi ms md imm s2 t2 mb2 mi2 ms2 md2 imm2 w (by simp; omega)
    · exact inst_eql_1 op2 d s t mb mi ms md imm d2 s2 t2 mb2 mi2 ms2 md2 imm2 w (by simp; omega)
  · exact inst_eql_0 op d s t mb mi ms md imm op2 d2 s2 t2 mb2 mi2 ms2 md2 imm2 w (by simp; omega)
set_option maxRecDepth 100000 in
set_option maxHeartbeats 4000000 in
theorem eApart_bad1 (op d s t mb mi ms md imm op2 d2 s2 t2 mb2 mi2 ms2 md2 imm2 : Int) (w : World) (hm : -9223372036854775808 ≤ md ∧ md ≤ 9223372036854775807) (hi : -9223372036854775808 ≤ imm ∧ imm ≤ 9223372036854775807) (hm2 : -9223372036854775808 ≤ md2 ∧ md2 ≤ 9223372036854775807) (hi2 : -9223372036854775808 ≤ imm2 ∧ imm2 ≤ 9223372036854775807) (x y : ByteArray) (ca : chk op d s t mb mi ms md imm = false) (k : Int) (cb : errOf (chk op2 d2 s2 t2 mb2 mi2 ms2 md2 imm2) = k) (ha : outE op d s t mb mi ms md imm = x) (hb0 : outE op2 d2 s2 t2 mb2 mi2 ms2 md2 imm2 = y) (hx : x.size ≤ 11) :
    Calls Try.prog 7 #[.agg #[.int .i64 op, .int .i64 d, .int .i64 s, .int .i64 t, .int .i64 mb, .int .i64 mi, .int .i64 ms, .int .i64 md, .int .i64 imm], .agg #[.int .i64 op2, .int .i64 d2, .int .i64 s2, .int .i64 t2, .int .i64 mb2, .int .i64 mi2, .int .i64 ms2, .int .i64 md2, .int .i64 imm2]] w fun e w' => e = .returned (.bool true) ∧ Below w.heap.size w w' := by
  go_enter Try.func7, Try.ntmps7
  go_wp2_with fail
  go_at_call 13
  refine (lives_any _).mono ?_
  rintro e w1 ⟨rfl, hb⟩
  have hB : Below w.heap.size w w1 := (bal (bal (Below.refl _ _) _) _).trans (hb.mono (by simp; omega))
  have hA : At9 w1 w.heap.size op d s t mb mi ms md imm := ⟨cellk hb (by simp only [World.size_alloc]; omega) (by go_simp), cellk hb (by simp only [World.size_alloc]; omega) (by go_simp), cellk hb (by simp only [World.size_alloc]; omega) (by go_simp), cellk hb (by simp only [World.size_alloc]; omega) (by go_simp), cellk hb (by simp only [World.size_alloc]; omega) (by go_simp), cellk hb (by simp only [World.size_alloc]; omega) (by go_simp), cellk hb (by simp only [World.size_alloc]; omega) (by go_simp), cellk hb (by simp only [World.size_alloc]; omega) (by go_simp), cellk hb (by simp only [World.size_alloc]; omega) (by go_simp)⟩
  have hC : At9 w1 (w.heap.size + 1) op2 d2 s2 t2 mb2 mi2 ms2 md2 imm2 := ⟨cellk hb (by simp only [World.size_alloc]; omega) (by go_simp), cellk hb (by simp only [World.size_alloc]; omega) (by go_simp), cellk hb (by simp only [World.size_alloc]; omega) (by go_simp), cellk hb (by simp only [World.size_alloc]; omega) (by go_simp), cellk hb (by simp only [World.size_alloc]; omega) (by go_simp), cellk hb (by simp only [World.size_alloc]; omega) (by go_simp), cellk hb (by simp only [World.size_alloc]; omega) (by go_simp), cellk hb (by simp only [World.size_alloc]; omega) (by go_simp), cellk hb (by simp only [World.size_alloc]; omega) (by go_simp)⟩
  have hz : w.heap.size + 1 < w1.heap.size := by have := hb.size; simp at this; omega
  clear hb
  obtain ⟨f0, f1, f2, f3, f4, f5, f6, f7, f8⟩ := hA
  obtain ⟨g0, g1, g2, g3, g4, g5, g6, g7, g8⟩ := hC
  go_wp2_with fail
  go_at_call 17
  refine (einst_eq _ _ _ _ _ _ _ _ _ _ _ hm hi 2 ha (by rw [ca]; rfl)).mono ?_
  rintro e w2 ⟨rfl, hb⟩
  replace hA : At9 w2 w.heap.size op d s t mb mi ms md imm := At9.keep ⟨f0, f1, f2, f3, f4, f5, f6, f7, f8⟩ hb (by omega)
  replace hC : At9 w2 (w.heap.size + 1) op2 d2 s2 t2 mb2 mi2 ms2 md2 imm2 := At9.keep ⟨g0, g1, g2, g3, g4, g5, g6, g7, g8⟩ hb (by omega)
  replace hB := hB.trans (hb.mono hB.size)
  replace hz : w.heap.size + 1 < w2.heap.size := Nat.lt_of_lt_of_le hz hb.size
  clear hb f0 f1 f2 f3 f4 f5 f6 f7 f8 g0 g1 g2 g3 g4 g5 g6 g7 g8
  obtain ⟨f0, f1, f2, f3, f4, f5, f6, f7, f8⟩ := hA
  obtain ⟨g0, g1, g2, g3, g4, g5, g6, g7, g8⟩ := hC
  go_wp2_with fail
  go_at_call 17
  refine (einst_eq _ _ _ _ _ _ _ _ _ _ _ hm2 hi2 k hb0 cb).mono ?_
  rintro e w3 ⟨rfl, hb⟩
  replace hA : At9 w3 w.heap.size op d s t mb mi ms md imm := At9.keep ⟨f0, f1, f2, f3, f4, f5, f6, f7, f8⟩ hb (by omega)
  replace hC : At9 w3 (w.heap.size + 1) op2 d2 s2 t2 mb2 mi2 ms2 md2 imm2 := At9.keep ⟨g0, g1, g2, g3, g4, g5, g6, g7, g8⟩ hb (by omega)
  replace hB := hB.trans (hb.mono hB.size)
  replace hz : w.heap.size + 1 < w3.heap.size := Nat.lt_of_lt_of_le hz hb.size
  clear hb f0 f1 f2 f3 f4 f5 f6 f7 f8 g0 g1 g2 g3 g4 g5 g6 g7 g8
  obtain ⟨f0, f1, f2, f3, f4, f5, f6, f7, f8⟩ := hA
  obtain ⟨g0, g1, g2, g3, g4, g5, g6, g7, g8⟩ := hC
  go_wp2_with fail
  go_at_call 14
  refine (rcheck_any _ _ _ _ _ _ _ _ _ _).mono ?_
  rw [ca, show errOf false = 2 from rfl]
  rintro e w4 ⟨rfl, hb⟩
  replace hA : At9 w4 w.heap.size op d s t mb mi ms md imm := At9.keep ⟨f0, f1, f2, f3, f4, f5, f6, f7, f8⟩ hb (by omega)
  replace hC : At9 w4 (w.heap.size + 1) op2 d2 s2 t2 mb2 mi2 ms2 md2 imm2 := At9.keep ⟨g0, g1, g2, g3, g4, g5, g6, g7, g8⟩ hb (by omega)
  replace hB := hB.trans (hb.mono hB.size)
  replace hz : w.heap.size + 1 < w4.heap.size := Nat.lt_of_lt_of_le hz hb.size
  clear hb f0 f1 f2 f3 f4 f5 f6 f7 f8 g0 g1 g2 g3 g4 g5 g6 g7 g8
  obtain ⟨f0, f1, f2, f3, f4, f5, f6, f7, f8⟩ := hA
  obtain ⟨g0, g1, g2, g3, g4, g5, g6, g7, g8⟩ := hC
  go_wp2_with fail
  go_at_call 20
  refine (size_any _ _ _ _ _ _ _ _ _ _ hm hi).mono ?_
  rw [ha]
  rintro e w5 ⟨rfl, hb⟩
  replace hA : At9 w5 w.heap.size op d s t mb mi ms md imm := At9.keep ⟨f0, f1, f2, f3, f4, f5, f6, f7, f8⟩ hb (by omega)
  replace hC : At9 w5 (w.heap.size + 1) op2 d2 s2 t2 mb2 mi2 ms2 md2 imm2 := At9.keep ⟨g0, g1, g2, g3, g4, g5, g6, g7, g8⟩ hb (by omega)
  replace hB := hB.trans (hb.mono hB.size)
  replace hz : w.heap.size + 1 < w5.heap.size := Nat.lt_of_lt_of_le hz hb.size
  clear hb f0 f1 f2 f3 f4 f5 f6 f7 f8 g0 g1 g2 g3 g4 g5 g6 g7 g8
  have hx11 : ¬ ((x.size : Int) > 11) := by omega
  go_wp2_with fail
  go_ret
  exact ⟨rfl, hB⟩
set_option maxRecDepth 100000 in
set_option maxHeartbeats 4000000 in
theorem eApart_bad2 (op d s t mb mi ms md imm op2 d2 s2 t2 mb2 mi2 ms2 md2 imm2 : Int) (w : World) (hm : -9223372036854775808 ≤ md ∧ md ≤ 9223372036854775807) (hi : -9223372036854775808 ≤ imm ∧ imm ≤ 9223372036854775807) (hm2 : -9223372036854775808 ≤ md2 ∧ md2 ≤ 9223372036854775807) (hi2 : -9223372036854775808 ≤ imm2 ∧ imm2 ≤ 9223372036854775807) (x y : ByteArray) (ca : chk op d s t mb mi ms md imm = true) (cb : chk op2 d2 s2 t2 mb2 mi2 ms2 md2 imm2 = false) (ha : outE op d s t mb mi ms md imm = x) (hb0 : outE op2 d2 s2 t2 mb2 mi2 ms2 md2 imm2 = y) (hx : x.size ≤ 11) :
    Calls Try.prog 7 #[.agg #[.int .i64 op, .int .i64 d, .int .i64 s, .int .i64 t, .int .i64 mb, .int .i64 mi, .int .i64 ms, .int .i64 md, .int .i64 imm], .agg #[.int .i64 op2, .int .i64 d2, .int .i64 s2, .int .i64 t2, .int .i64 mb2, .int .i64 mi2, .int .i64 ms2, .int .i64 md2, .int .i64 imm2]] w fun e w' => e = .returned (.bool true) ∧ Below w.heap.size w w' := by
  go_enter Try.func7, Try.ntmps7
  go_wp2_with fail
  go_at_call 13
  refine (lives_any _).mono ?_
  rintro e w1 ⟨rfl, hb⟩
  have hB : Below w.heap.size w w1 := (bal (bal (Below.refl _ _) _) _).trans (hb.mono (by simp; omega))
  have hA : At9 w1 w.heap.size op d s t mb mi ms md imm := ⟨cellk hb (by simp only [World.size_alloc]; omega) (by go_simp), cellk hb (by simp only [World.size_alloc]; omega) (by go_simp), cellk hb (by simp only [World.size_alloc]; omega) (by go_simp), cellk hb (by simp only [World.size_alloc]; omega) (by go_simp), cellk hb (by simp only [World.size_alloc]; omega) (by go_simp), cellk hb (by simp only [World.size_alloc]; omega) (by go_simp), cellk hb (by simp only [World.size_alloc]; omega) (by go_simp), cellk hb (by simp only [World.size_alloc]; omega) (by go_simp), cellk hb (by simp only [World.size_alloc]; omega) (by go_simp)⟩
  have hC : At9 w1 (w.heap.size + 1) op2 d2 s2 t2 mb2 mi2 ms2 md2 imm2 := ⟨cellk hb (by simp only [World.size_alloc]; omega) (by go_simp), cellk hb (by simp only [World.size_alloc]; omega) (by go_simp), cellk hb (by simp only [World.size_alloc]; omega) (by go_simp), cellk hb (by simp only [World.size_alloc]; omega) (by go_simp), cellk hb (by simp only [World.size_alloc]; omega) (by go_simp), cellk hb (by simp only [World.size_alloc]; omega) (by go_simp), cellk hb (by simp only [World.size_alloc]; omega) (by go_simp), cellk hb (by simp only [World.size_alloc]; omega) (by go_simp), cellk hb (by simp only [World.size_alloc]; omega) (by go_simp)⟩
  have hz : w.heap.size + 1 < w1.heap.size := by have := hb.size; simp at this; omega
  clear hb
  obtain ⟨f0, f1, f2, f3, f4, f5, f6, f7, f8⟩ := hA
  obtain ⟨g0, g1, g2, g3, g4, g5, g6, g7, g8⟩ := hC
  go_wp2_with fail
  go_at_call 17
  refine (einst_eq _ _ _ _ _ _ _ _ _ _ _ hm hi 0 ha (by rw [ca]; rfl)).mono ?_
  rintro e w2 ⟨rfl, hb⟩
  replace hA : At9 w2 w.heap.size op d s t mb mi ms md imm := At9.keep ⟨f0, f1, f2, f3, f4, f5, f6, f7, f8⟩ hb (by omega)
  replace hC : At9 w2 (w.heap.size + 1) op2 d2 s2 t2 mb2 mi2 ms2 md2 imm2 := At9.keep ⟨g0, g1, g2, g3, g4, g5, g6, g7, g8⟩ hb (by omega)
  replace hB := hB.trans (hb.mono hB.size)
  replace hz : w.heap.size + 1 < w2.heap.size := Nat.lt_of_lt_of_le hz hb.size
  clear hb f0 f1 f2 f3 f4 f5 f6 f7 f8 g0 g1 g2 g3 g4 g5 g6 g7 g8
  obtain ⟨f0, f1, f2, f3, f4, f5, f6, f7, f8⟩ := hA
  obtain ⟨g0, g1, g2, g3, g4, g5, g6, g7, g8⟩ := hC
  go_wp2_with fail
  go_at_call 17
  refine (einst_eq _ _ _ _ _ _ _ _ _ _ _ hm2 hi2 2 hb0 (by rw [cb]; rfl)).mono ?_
  rintro e w3 ⟨rfl, hb⟩
  replace hA : At9 w3 w.heap.size op d s t mb mi ms md imm := At9.keep ⟨f0, f1, f2, f3, f4, f5, f6, f7, f8⟩ hb (by omega)
  replace hC : At9 w3 (w.heap.size + 1) op2 d2 s2 t2 mb2 mi2 ms2 md2 imm2 := At9.keep ⟨g0, g1, g2, g3, g4, g5, g6, g7, g8⟩ hb (by omega)
  replace hB := hB.trans (hb.mono hB.size)
  replace hz : w.heap.size + 1 < w3.heap.size := Nat.lt_of_lt_of_le hz hb.size
  clear hb f0 f1 f2 f3 f4 f5 f6 f7 f8 g0 g1 g2 g3 g4 g5 g6 g7 g8
  obtain ⟨f0, f1, f2, f3, f4, f5, f6, f7, f8⟩ := hA
  obtain ⟨g0, g1, g2, g3, g4, g5, g6, g7, g8⟩ := hC
  go_wp2_with fail
  go_at_call 14
  refine (rcheck_any _ _ _ _ _ _ _ _ _ _).mono ?_
  rw [ca, show errOf true = 0 from rfl]
  rintro e w4 ⟨rfl, hb⟩
  replace hA : At9 w4 w.heap.size op d s t mb mi ms md imm := At9.keep ⟨f0, f1, f2, f3, f4, f5, f6, f7, f8⟩ hb (by omega)
  replace hC : At9 w4 (w.heap.size + 1) op2 d2 s2 t2 mb2 mi2 ms2 md2 imm2 := At9.keep ⟨g0, g1, g2, g3, g4, g5, g6, g7, g8⟩ hb (by omega)
  replace hB := hB.trans (hb.mono hB.size)
  replace hz : w.heap.size + 1 < w4.heap.size := Nat.lt_of_lt_of_le hz hb.size
  clear hb f0 f1 f2 f3 f4 f5 f6 f7 f8 g0 g1 g2 g3 g4 g5 g6 g7 g8
  obtain ⟨f0, f1, f2, f3, f4, f5, f6, f7, f8⟩ := hA
  obtain ⟨g0, g1, g2, g3, g4, g5, g6, g7, g8⟩ := hC
  go_wp2_with fail
  go_at_call 20
  refine (size_any _ _ _ _ _ _ _ _ _ _ hm hi).mono ?_
  rw [ha]
  rintro e w5 ⟨rfl, hb⟩
  replace hA : At9 w5 w.heap.size op d s t mb mi ms md imm := At9.keep ⟨f0, f1, f2, f3, f4, f5, f6, f7, f8⟩ hb (by omega)
  replace hC : At9 w5 (w.heap.size + 1) op2 d2 s2 t2 mb2 mi2 ms2 md2 imm2 := At9.keep ⟨g0, g1, g2, g3, g4, g5, g6, g7, g8⟩ hb (by omega)
  replace hB := hB.trans (hb.mono hB.size)
  replace hz : w.heap.size + 1 < w5.heap.size := Nat.lt_of_lt_of_le hz hb.size
  clear hb f0 f1 f2 f3 f4 f5 f6 f7 f8 g0 g1 g2 g3 g4 g5 g6 g7 g8
  have hx11 : ¬ ((x.size : Int) > 11) := by omega
  go_wp2_with fail
  go_ret
  exact ⟨rfl, hB⟩
set_option maxRecDepth 100000 in
set_option maxHeartbeats 4000000 in
theorem eApart_ok (op d s t mb mi ms md imm op2 d2 s2 t2 mb2 mi2 ms2 md2 imm2 : Int) (w : World) (hm : -9223372036854775808 ≤ md ∧ md ≤ 9223372036854775807) (hi : -9223372036854775808 ≤ imm ∧ imm ≤ 9223372036854775807) (hm2 : -9223372036854775808 ≤ md2 ∧ md2 ≤ 9223372036854775807) (hi2 : -9223372036854775808 ≤ imm2 ∧ imm2 ≤ 9223372036854775807) (x y x' y' : ByteArray) (v : Bool) (ca : chk op d s t mb mi ms md imm = true) (cb : chk op2 d2 s2 t2 mb2 mi2 ms2 md2 imm2 = true) (ha : outE op d s t mb mi ms md imm = x) (hb0 : outE op2 d2 s2 t2 mb2 mi2 ms2 md2 imm2 = y)
    (hx0 : 1 ≤ x.size) (hx : x.size ≤ 11) (hy0 : 1 ≤ y.size) (hy : y.size ≤ 11) (n : Nat) (hn : n = min x.size y.size) (hx' : x.extract 0 n = x') (hy' : y.extract 0 n = y') (hv : (x'.toList == y'.toList) = v)
    (hall : outs [⟨op, d, s, t, mb, mi, ms, md, imm⟩, ⟨op2, d2, s2, t2, mb2, mi2, ms2, md2, imm2⟩] = x ++ y) (hallk : errOf (allOk [⟨op, d, s, t, mb, mi, ms, md, imm⟩, ⟨op2, d2, s2, t2, mb2, mi2, ms2, md2, imm2⟩]) = 0)
    (heq : ∀ w : World, (binOp .eql 25 (.agg #[.int .i64 op, .int .i64 d, .int .i64 s, .int .i64 t, .int .i64 mb, .int .i64 mi, .int .i64 ms, .int .i64 md, .int .i64 imm]) (.agg #[.int .i64 op2, .int .i64 d2, .int .i64 s2, .int .i64 t2, .int .i64 mb2, .int .i64 mi2, .int .i64 ms2, .int .i64 md2, .int .i64 imm2])).run Try.prog w = .ok (.bool v) w) :
    Calls Try.prog 7 #[.agg #[.int .i64 op, .int .i64 d, .int .i64 s, .int .i64 t, .int .i64 mb, .int .i64 mi, .int .i64 ms, .int .i64 md, .int .i64 imm], .agg #[.int .i64 op2, .int .i64 d2, .int .i64 s2, .int .i64 t2, .int .i64 mb2, .int .i64 mi2, .int .i64 ms2, .int .i64 md2, .int .i64 imm2]] w fun e w' => e = .returned (.bool true) ∧ Below w.heap.size w w' := by
  go_enter Try.func7, Try.ntmps7
  go_wp2_with fail
  go_at_call 13
  refine (lives_any _).mono ?_
  rintro e w1 ⟨rfl, hb⟩
  have hB : Below w.heap.size w w1 := (bal (bal (Below.refl _ _) _) _).trans (hb.mono (by simp; omega))
  have hA : At9 w1 w.heap.size op d s t mb mi ms md imm := ⟨cellk hb (by simp only [World.size_alloc]; omega) (by go_simp), cellk hb (by simp only [World.size_alloc]; omega) (by go_simp), cellk hb (by simp only [World.size_alloc]; omega) (by go_simp), cellk hb (by simp only [World.size_alloc]; omega) (by go_simp), cellk hb (by simp only [World.size_alloc]; omega) (by go_simp), cellk hb (by simp only [World.size_alloc]; omega) (by go_simp), cellk hb (by simp only [World.size_alloc]; omega) (by go_simp), cellk hb (by simp only [World.size_alloc]; omega) (by go_simp), cellk hb (by simp only [World.size_alloc]; omega) (by go_simp)⟩
  have hC : At9 w1 (w.heap.size + 1) op2 d2 s2 t2 mb2 mi2 ms2 md2 imm2 := ⟨cellk hb (by simp only [World.size_alloc]; omega) (by go_simp), cellk hb (by simp only [World.size_alloc]; omega) (by go_simp), cellk hb (by simp only [World.size_alloc]; omega) (by go_simp), cellk hb (by simp only [World.size_alloc]; omega) (by go_simp), cellk hb (by simp only [World.size_alloc]; omega) (by go_simp), cellk hb (by simp only [World.size_alloc]; omega) (by go_simp), cellk hb (by simp only [World.size_alloc]; omega) (by go_simp), cellk hb (by simp only [World.size_alloc]; omega) (by go_simp), cellk hb (by simp only [World.size_alloc]; omega) (by go_simp)⟩
  have hz : w.heap.size + 1 < w1.heap.size := by have := hb.size; simp at this; omega
  clear hb
  obtain ⟨f0, f1, f2, f3, f4, f5, f6, f7, f8⟩ := hA
  obtain ⟨g0, g1, g2, g3, g4, g5, g6, g7, g8⟩ := hC
  go_wp2_with fail
  go_at_call 17
  refine (einst_eq _ _ _ _ _ _ _ _ _ _ _ hm hi 0 ha (by rw [ca]; rfl)).mono ?_
  rintro e w2 ⟨rfl, hb⟩
  replace hA : At9 w2 w.heap.size op d s t mb mi ms md imm := At9.keep ⟨f0, f1, f2, f3, f4, f5, f6, f7, f8⟩ hb (by omega)
  replace hC : At9 w2 (w.heap.size + 1) op2 d2 s2 t2 mb2 mi2 ms2 md2 imm2 := At9.keep ⟨g0, g1, g2, g3, g4, g5, g6, g7, g8⟩ hb (by omega)
  replace hB := hB.trans (hb.mono hB.size)
  replace hz : w.heap.size + 1 < w2.heap.size := Nat.lt_of_lt_of_le hz hb.size
  clear hb f0 f1 f2 f3 f4 f5 f6 f7 f8 g0 g1 g2 g3 g4 g5 g6 g7 g8
  obtain ⟨f0, f1, f2, f3, f4, f5, f6, f7, f8⟩ := hA
  obtain ⟨g0, g1, g2, g3, g4, g5, g6, g7, g8⟩ := hC
  go_wp2_with fail
  go_at_call 17
  refine (einst_eq _ _ _ _ _ _ _ _ _ _ _ hm2 hi2 0 hb0 (by rw [cb]; rfl)).mono ?_
  rintro e w3 ⟨rfl, hb⟩
  replace hA : At9 w3 w.heap.size op d s t mb mi ms md imm := At9.keep ⟨f0, f1, f2, f3, f4, f5, f6, f7, f8⟩ hb (by omega)
  replace hC : At9 w3 (w.heap.size + 1) op2 d2 s2 t2 mb2 mi2 ms2 md2 imm2 := At9.keep ⟨g0, g1, g2, g3, g4, g5, g6, g7, g8⟩ hb (by omega)
  replace hB := hB.trans (hb.mono hB.size)
  replace hz : w.heap.size + 1 < w3.heap.size := Nat.lt_of_lt_of_le hz hb.size
  clear hb f0 f1 f2 f3 f4 f5 f6 f7 f8 g0 g1 g2 g3 g4 g5 g6 g7 g8
  obtain ⟨f0, f1, f2, f3, f4, f5, f6, f7, f8⟩ := hA
  obtain ⟨g0, g1, g2, g3, g4, g5, g6, g7, g8⟩ := hC
  go_wp2_with fail
  go_at_call 14
  refine (rcheck_any _ _ _ _ _ _ _ _ _ _).mono ?_
  rw [ca, show errOf true = 0 from rfl]
  rintro e w4 ⟨rfl, hb⟩
  replace hA : At9 w4 w.heap.size op d s t mb mi ms md imm := At9.keep ⟨f0, f1, f2, f3, f4, f5, f6, f7, f8⟩ hb (by omega)
  replace hC : At9 w4 (w.heap.size + 1) op2 d2 s2 t2 mb2 mi2 ms2 md2 imm2 := At9.keep ⟨g0, g1, g2, g3, g4, g5, g6, g7, g8⟩ hb (by omega)
  replace hB := hB.trans (hb.mono hB.size)
  replace hz : w.heap.size + 1 < w4.heap.size := Nat.lt_of_lt_of_le hz hb.size
  clear hb f0 f1 f2 f3 f4 f5 f6 f7 f8 g0 g1 g2 g3 g4 g5 g6 g7 g8
  obtain ⟨f0, f1, f2, f3, f4, f5, f6, f7, f8⟩ := hA
  obtain ⟨g0, g1, g2, g3, g4, g5, g6, g7, g8⟩ := hC
  go_wp2_with fail
  go_at_call 20
  refine (size_any _ _ _ _ _ _ _ _ _ _ hm hi).mono ?_
  rw [ha]
  rintro e w5 ⟨rfl, hb⟩
  replace hA : At9 w5 w.heap.size op d s t mb mi ms md imm := At9.keep ⟨f0, f1, f2, f3, f4, f5, f6, f7, f8⟩ hb (by omega)
  replace hC : At9 w5 (w.heap.size + 1) op2 d2 s2 t2 mb2 mi2 ms2 md2 imm2 := At9.keep ⟨g0, g1, g2, g3, g4, g5, g6, g7, g8⟩ hb (by omega)
  replace hB := hB.trans (hb.mono hB.size)
  replace hz : w.heap.size + 1 < w5.heap.size := Nat.lt_of_lt_of_le hz hb.size
  clear hb f0 f1 f2 f3 f4 f5 f6 f7 f8 g0 g1 g2 g3 g4 g5 g6 g7 g8
  have hx11 : ¬ ((x.size : Int) > 11) := by omega
  obtain ⟨f0, f1, f2, f3, f4, f5, f6, f7, f8⟩ := hA
  obtain ⟨g0, g1, g2, g3, g4, g5, g6, g7, g8⟩ := hC
  have hz' := hidd hz
  go_wp2_with fail
  go_at_call 18
  refine (all_lit w5 [⟨op, d, s, t, mb, mi, ms, md, imm⟩, ⟨op2, d2, s2, t2, mb2, mi2, ms2, md2, imm2⟩] _ _ rfl _ (by simp) ?_ rfl _ 0 hall hallk).mono ?_
  · intro z hz; simp at hz; rcases hz with rfl | rfl
    · exact ⟨hm, hi⟩
    · exact ⟨hm2, hi2⟩
  rintro e w6 ⟨rfl, hb⟩
  have hb' : Below w5.heap.size w5 w6 := (bal (Below.refl _ _) _).trans hb
  replace hA : At9 w6 w.heap.size op d s t mb mi ms md imm := At9.keep ⟨f0, f1, f2, f3, f4, f5, f6, f7, f8⟩ hb' (by have := hz'.out; omega)
  replace hC : At9 w6 (w.heap.size + 1) op2 d2 s2 t2 mb2 mi2 ms2 md2 imm2 := At9.keep ⟨g0, g1, g2, g3, g4, g5, g6, g7, g8⟩ hb' (by have := hz'.out; omega)
  replace hB := hB.trans (hb'.mono hB.size)
  clear hb hb' f0 f1 f2 f3 f4 f5 f6 f7 f8 g0 g1 g2 g3 g4 g5 g6 g7 g8
  obtain ⟨f0, f1, f2, f3, f4, f5, f6, f7, f8⟩ := hA
  obtain ⟨g0, g1, g2, g3, g4, g5, g6, g7, g8⟩ := hC
  have x0 : ((x.size : Int) == 0) = false := by rw [beq_eq_false_iff_ne]; omega
  have y0 : ((y.size : Int) == 0) = false := by rw [beq_eq_false_iff_ne]; omega
  by_cases hxy : x.size ≤ y.size
  · have hn1 : n = x.size := by omega
    subst hn1
    have sl1 : ∀ w : World, (Instr.slice 9 (.string x) none (some (.int .i64 (x.size : Int))) none).run Try.prog w = .ok (.string x') w := by
      intro w
      rw [run_slice_string_h w 9 x Try.underlying9 .i64 _ (by omega) (by omega), Int.toNat_natCast, hx']
    have sl2 : ∀ w : World, (Instr.slice 9 (.string y) none (some (.int .i64 (x.size : Int))) none).run Try.prog w = .ok (.string y') w := by
      intro w
      rw [run_slice_string_h w 9 y Try.underlying9 .i64 _ (by omega) (by omega), Int.toNat_natCast, hy']
    have hle : (x.size : Int) ≤ (y.size : Int) := by omega
    clear hx' hy' hn hxy
    go_wp2_with fail
    go_quiet (fail)
    go_wp2_with fail
    go_ret
    exact ⟨rfl, below_drN hB _⟩
  · have hn1 : n = y.size := by omega
    subst hn1
    have sl1 : ∀ w : World, (Instr.slice 9 (.string x) none (some (.int .i64 (y.size : Int))) none).run Try.prog w = .ok (.string x') w := by
      intro w
      rw [run_slice_string_h w 9 x Try.underlying9 .i64 _ (by omega) (by omega), Int.toNat_natCast, hx']
    have sl2 : ∀ w : World, (Instr.slice 9 (.string y) none (some (.int .i64 (y.size : Int))) none).run Try.prog w = .ok (.string y') w := by
      intro w
      rw [run_slice_string_h w 9 y Try.underlying9 .i64 _ (by omega) (by omega), Int.toNat_natCast, hy']
    have hle : ¬ (x.size : Int) ≤ (y.size : Int) := by omega
    clear hx' hy' hn hxy
    go_wp2_with fail
    go_quiet (fail)
    go_wp2_with fail
    go_ret
    exact ⟨rfl, below_drN hB _⟩
theorem prefix_eq (x y : Ins) (n : Nat) (hx : x.chk = true) (hy : y.chk = true) (hxi : I64 x.imm) (hyi : I64 y.imm) (hn : n = min x.out.size y.out.size) (h : x.out.extract 0 n = y.out.extract 0 n) : x = y := by
  have sx : x.out.size = x.enc.length := by rw [Ins.out_ok hx, strB_size]
  have sy : y.out.size = y.enc.length := by rw [Ins.out_ok hy, strB_size]
  have cut : ∀ (a b : List Int), Bytes a → Bytes b → b.length ≤ a.length → (strB a).extract 0 b.length = strB b → ∃ r, a = b ++ r := by
    intro a b ha hb hl e
    refine ⟨a.drop b.length, ?_⟩
    have e2 : strB (a.take b.length) = strB b := by
      rw [← e]
      have : strB a = strB (a.take b.length) ++ strB (a.drop b.length) := by rw [← strB_append, List.take_append_drop]
      rw [this]
      exact (extract_left _ _ _ (by rw [strB_size, List.length_take]; omega)).symm
    have e3 := strB_inj (fun z hz => ha z (List.mem_of_mem_take hz)) hb e2
    conv => lhs; rw [← List.take_append_drop b.length a, e3]
  have all : ∀ (a : List Int), (strB a).extract 0 a.length = strB a := by
    intro a
    have := extract_left (strB a) (strB []) a.length (by rw [strB_size])
    rwa [← strB_append, List.append_nil] at this
  have bx := (Ins.enc_bytes hx).1
  have bY := (Ins.enc_bytes hy).1
  rw [Ins.out_ok hx, Ins.out_ok hy] at h
  rcases Nat.le_total x.enc.length y.enc.length with hl | hl
  · have hn1 : n = x.enc.length := by omega
    rw [hn1, all] at h
    obtain ⟨r, hr⟩ := cut _ _ bY bx hl h.symm
    exact enc_apart hx hy hxi hyi (r := r) (r' := []) (by rw [hr, List.append_nil])
  · have hn1 : n = y.enc.length := by omega
    rw [hn1, all] at h
    obtain ⟨r, hr⟩ := cut _ _ bx bY hl h
    exact enc_apart hx hy hxi hyi (r := []) (r' := r) (by rw [hr, List.append_nil])
theorem toList_data (a : ByteArray) : a.toList = a.data.toList := ByteArray.toList_eq a
theorem apart_v (x y : Ins) (n : Nat) (hx : x.chk = true) (hy : y.chk = true) (hxi : I64 x.imm) (hyi : I64 y.imm) (hn : n = min x.out.size y.out.size) (hne : x ≠ y) : ((x.out.extract 0 n).toList == (y.out.extract 0 n).toList) = false := by
  rw [beq_eq_false_iff_ne]
  intro h
  rw [toList_data, toList_data] at h
  exact hne (prefix_eq x y n hx hy hxi hyi hn (ba_ext h))
theorem outs_two (x y : Ins) (hx : x.chk = true) (hy : y.chk = true) : outs [x, y] = x.out ++ y.out ∧ errOf (allOk [x, y]) = 0 := by
  have e : allOk [x, y] = true := by show (x.chk && (y.chk && true)) = true; rw [hx, hy]; rfl
  refine ⟨?_, by rw [e]; rfl⟩
  rw [outs_ok _ e]
  show (⟨#[]⟩ ++ x.out) ++ y.out = _
  congr 1
theorem eApart_walk (op d s t mb mi ms md imm : Int) (_b0 : I64 op) (_b1 : I64 d) (_b2 : I64 s) (_b3 : I64 t) (_b4 : I64 mb) (_b5 : I64 mi) (_b6 : I64 ms) (b7 : I64 md) (b8 : I64 imm) (op2 d2 s2 t2 mb2 mi2 ms2 md2 imm2 : Int) (_c0 : I64 op2) (_c1 : I64 d2) (_c2 : I64 s2) (_c3 : I64 t2) (_c4 : I64 mb2) (_c5 : I64 mi2) (_c6 : I64 ms2) (c7 : I64 md2) (c8 : I64 imm2) (w : World) :
    Calls Try.prog 7 #[instV op d s t mb mi ms md imm, instV op2 d2 s2 t2 mb2 mi2 ms2 md2 imm2] w fun e w' => e = .returned (.bool true) ∧ Below w.heap.size w w' := by
  unfold instV
  cases ca : chk op d s t mb mi ms md imm
  · exact eApart_bad1 op d s t mb mi ms md imm op2 d2 s2 t2 mb2 mi2 ms2 md2 imm2 w b7 b8 c7 c8 _ _ ca _ rfl rfl rfl (out_size' _ _ _ _ _ _ _ _ _)
  cases cb : chk op2 d2 s2 t2 mb2 mi2 ms2 md2 imm2
  · exact eApart_bad2 op d s t mb mi ms md imm op2 d2 s2 t2 mb2 mi2 ms2 md2 imm2 w b7 b8 c7 c8 _ _ ca cb rfl rfl (out_size' _ _ _ _ _ _ _ _ _)
  have ho := outs_two ⟨op, d, s, t, mb, mi, ms, md, imm⟩ ⟨op2, d2, s2, t2, mb2, mi2, ms2, md2, imm2⟩ ca cb
  have z1 : 1 ≤ (outE op d s t mb mi ms md imm).size := by
    have := (encL_bytes ca).2.1
    unfold outE; rw [if_pos ca, strB_size]; exact this
  have z2 : 1 ≤ (outE op2 d2 s2 t2 mb2 mi2 ms2 md2 imm2).size := by
    have := (encL_bytes cb).2.1
    unfold outE; rw [if_pos cb, strB_size]; exact this
  by_cases he : (⟨op, d, s, t, mb, mi, ms, md, imm⟩ : Ins) = ⟨op2, d2, s2, t2, mb2, mi2, ms2, md2, imm2⟩
  · injection he with e0 e1 e2 e3 e4 e5 e6 e7 e8
    subst e0 e1 e2 e3 e4 e5 e6 e7 e8
    exact eApart_ok op d s t mb mi ms md imm op d s t mb mi ms md imm w b7 b8 c7 c8 _ _ _ _ true ca cb rfl rfl z1 (out_size' _ _ _ _ _ _ _ _ _) z2 (out_size' _ _ _ _ _ _ _ _ _) _ rfl rfl rfl (by simp) ho.1 ho.2 (fun w => inst_eql_same _ _ _ _ _ _ _ _ _ w)
  · exact eApart_ok op d s t mb mi ms md imm op2 d2 s2 t2 mb2 mi2 ms2 md2 imm2 w b7 b8 c7 c8 _ _ _ _ false ca cb rfl rfl z1 (out_size' _ _ _ _ _ _ _ _ _) z2 (out_size' _ _ _ _ _ _ _ _ _) _ rfl rfl rfl (apart_v ⟨op, d, s, t, mb, mi, ms, md, imm⟩ ⟨op2, d2, s2, t2, mb2, mi2, ms2, md2, imm2⟩ _ ca cb b8 c8 rfl he) ho.1 ho.2 (fun w => inst_eql_not _ _ _ _ _ _ _ _ _ _ _ _ _ _ _ _ _ _ w he)
end Go.Proofs.Ytakmpnmmcjnecaa
