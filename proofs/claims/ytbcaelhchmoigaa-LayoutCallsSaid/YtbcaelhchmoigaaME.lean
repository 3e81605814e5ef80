import Derived.Test.YtbcaelhchmoigaaMD
import Derived.Lib.AppendStr
set_option linter.unusedVariables false
set_option linter.unusedSimpArgs false
namespace Go.Proofs.Ytbcaelhchmoigaa
open Go.RowKit Calm
theorem size_any (op d s t mb mi ms md imm : Int) (w : World) (hd : -9223372036854775808 ≤ md ∧ md ≤ 9223372036854775807) (hi : -9223372036854775808 ≤ imm ∧ imm ≤ 9223372036854775807) :
    Calls Try.prog 35 #[.agg #[.int .i64 op, .int .i64 d, .int .i64 s, .int .i64 t, .int .i64 mb, .int .i64 mi, .int .i64 ms, .int .i64 md, .int .i64 imm]] w
      fun e w' => e = .returned (.int .i64 (outE op d s t mb mi ms md imm).size) ∧ Below w.heap.size w w' := by
  go_enter Try.func35, Try.ntmps35
  go_wp2_with fail
  go_at_call 29
  refine (einst_any _ _ _ _ _ _ _ _ _ _ hd hi).mono ?_
  rintro e w1 ⟨rfl, hb1⟩
  have hB : Below w.heap.size w w1 := (bal (Below.refl _ _) _).trans (hb1.mono (by simp))
  go_wp2
  go_ret
  exact ⟨rfl, hB⟩
end Go.Proofs.Ytbcaelhchmoigaa
namespace Go.Proofs.Ytbcaelhchmoigaa
open Go.RowKit Calm
structure Ins where
  op : Int
  d : Int
  s : Int
  t : Int
  mb : Int
  mi : Int
  ms : Int
  md : Int
  imm : Int
def Ins.vs (x : Ins) : List Value := [.int .i64 x.op, .int .i64 x.d, .int .i64 x.s, .int .i64 x.t, .int .i64 x.mb, .int .i64 x.mi, .int .i64 x.ms, .int .i64 x.md, .int .i64 x.imm]
def Ins.chk (x : Ins) : Bool := Go.Proofs.Ytbcaelhchmoigaa.chk x.op x.d x.s x.t x.mb x.mi x.ms x.md x.imm
def Ins.enc (x : Ins) : List Int := encL x.op x.d x.s x.t x.mb x.mi x.ms x.md x.imm
def Ins.out (x : Ins) : ByteArray := outE x.op x.d x.s x.t x.mb x.mi x.ms x.md x.imm
def Bytes (l : List Int) : Prop := ∀ b ∈ l, 0 ≤ b ∧ b ≤ 255
theorem Bytes.nil : Bytes [] := fun _ h => by simp at h
theorem Bytes.cons {b : Int} {l : List Int} (h : 0 ≤ b ∧ b ≤ 255) (hl : Bytes l) : Bytes (b :: l) := by
  intro x hx
  rcases List.mem_cons.1 hx with rfl | hx
  · exact h
  · exact hl x hx
theorem Bytes.append {a b : List Int} (ha : Bytes a) (hb : Bytes b) : Bytes (a ++ b) := by
  intro x hx
  rcases List.mem_append.1 hx with h | h
  · exact ha x h
  · exact hb x h
theorem Bytes.little (n : Int) (k : Nat) : Bytes (littleL n k) := by
  induction k generalizing n with
  | zero => exact Bytes.nil
  | succ k ih => unfold littleL; exact Bytes.cons (by omega) (ih _)
theorem loR_b (r : Int) : 0 ≤ loR r ∧ loR r ≤ 7 := by unfold loR; omega
theorem hiR_b (r : Int) : 0 ≤ hiR r ∧ hiR r ≤ 1 := by unfold hiR; split <;> omega
theorem rexI_b (a b c : Int) : 72 ≤ rexI a b c ∧ rexI a b c ≤ 79 := by
  have := hiR_b a; have := hiR_b b; have := hiR_b c
  unfold rexI; omega
theorem bothI_b (a b : Int) : 192 ≤ bothI a b ∧ bothI a b ≤ 255 := by
  have := loR_b a; have := loR_b b
  unfold bothI; omega
theorem placeL_b (mid mb mi ms md : Int) : Bytes (placeL mid mb mi ms md) := by
  have h1 := loR_b mid; have h2 := loR_b mb; have h3 := loR_b mi
  have h4 : 0 ≤ modI mb md ∧ modI mb md ≤ 2 := by unfold modI; split <;> (try split) <;> omega
  have h5 : 0 ≤ scaleI ms ∧ scaleI ms ≤ 3 := by unfold scaleI; split <;> (try split) <;> (try split) <;> omega
  unfold placeL
  repeat' split
  all_goals (try unfold rmI); all_goals (try unfold sibI)
  all_goals first | exact Bytes.cons (by omega) (Bytes.little _ _) | exact Bytes.cons (by omega) (Bytes.cons (by omega) (Bytes.little _ _))
theorem stackL_b {c r : Int} (h : 0 ≤ c ∧ c ≤ 200) : Bytes (stackL c r) ∧ 1 ≤ (stackL c r).length ∧ (stackL c r).length ≤ 11 := by
  have := loR_b r
  unfold stackL; split
  · exact ⟨Bytes.cons (by omega) (Bytes.cons (by omega) Bytes.nil), by simp, by simp⟩
  · exact ⟨Bytes.cons (by omega) Bytes.nil, by simp, by simp⟩
theorem jumpL_b {c m n : Int} (h : 0 ≤ c ∧ c ≤ 255) (hm : 0 ≤ m ∧ m ≤ 255) : Bytes (jumpL c m n) ∧ 1 ≤ (jumpL c m n).length ∧ (jumpL c m n).length ≤ 11 := by
  unfold jumpL; split
  · exact ⟨Bytes.cons h (Bytes.little _ _), by simp, by simp [littleL_length]⟩
  · exact ⟨Bytes.cons h (Bytes.cons hm (Bytes.little _ _)), by simp, by simp [littleL_length]⟩
theorem encB_1 (d s t mb mi ms md imm : Int) (_h : imm = 0 ∧ Reg d ∧ Reg s ∧ t = 0 ∧ (mb = 0 ∧ mi = 0 ∧ ms = 0 ∧ md = 0)) : Bytes [rexI s 0 d, 137, bothI s d] ∧ 1 ≤ ([rexI s 0 d, 137, bothI s d]).length ∧ ([rexI s 0 d, 137, bothI s d]).length ≤ 11 := by
  have q0 := rexI_b s 0 d
  have q1 := bothI_b s d
  exact ⟨Bytes.cons (by omega) (Bytes.cons (by omega) (Bytes.cons (by omega) Bytes.nil)), by simp, by simp⟩
theorem encB_2 (d s t mb mi ms md imm : Int) (_h : True ∧ Reg d ∧ s = 0 ∧ t = 0 ∧ (mb = 0 ∧ mi = 0 ∧ ms = 0 ∧ md = 0)) : Bytes ([rexI 0 0 d, 184 + loR d] ++ littleL imm 8) ∧ 1 ≤ (([rexI 0 0 d, 184 + loR d] ++ littleL imm 8)).length ∧ (([rexI 0 0 d, 184 + loR d] ++ littleL imm 8)).length ≤ 11 := by
  have q0 := rexI_b 0 0 d
  have l0 := loR_b d
  exact ⟨Bytes.append (Bytes.cons (by omega) (Bytes.cons (by omega) Bytes.nil)) (Bytes.little _ _), by simp, by simp [littleL_length]⟩
theorem encB_3 (d s t mb mi ms md imm : Int) (_h : imm = 0 ∧ Reg d ∧ s = 0 ∧ t = 0 ∧ plc mb mi ms md = true) : Bytes ([rexI d mi mb, 139] ++ placeL d mb mi ms md) ∧ 1 ≤ (([rexI d mi mb, 139] ++ placeL d mb mi ms md)).length ∧ (([rexI d mi mb, 139] ++ placeL d mb mi ms md)).length ≤ 11 := by
  have q0 := rexI_b d mi mb
  exact ⟨Bytes.append (Bytes.cons (by omega) (Bytes.cons (by omega) Bytes.nil)) (placeL_b _ _ _ _ _), by simp, by have := placeL_length d mb mi ms md; simp; omega⟩
theorem encB_4 (d s t mb mi ms md imm : Int) (_h : imm = 0 ∧ d = 0 ∧ Reg s ∧ t = 0 ∧ plc mb mi ms md = true) : Bytes ([rexI s mi mb, 137] ++ placeL s mb mi ms md) ∧ 1 ≤ (([rexI s mi mb, 137] ++ placeL s mb mi ms md)).length ∧ (([rexI s mi mb, 137] ++ placeL s mb mi ms md)).length ≤ 11 := by
  have q0 := rexI_b s mi mb
  exact ⟨Bytes.append (Bytes.cons (by omega) (Bytes.cons (by omega) Bytes.nil)) (placeL_b _ _ _ _ _), by simp, by have := placeL_length s mb mi ms md; simp; omega⟩
theorem encB_5 (d s t mb mi ms md imm : Int) (_h : imm = 0 ∧ Reg d ∧ s = 0 ∧ t = 0 ∧ plc mb mi ms md = true) : Bytes ([rexI d mi mb, 141] ++ placeL d mb mi ms md) ∧ 1 ≤ (([rexI d mi mb, 141] ++ placeL d mb mi ms md)).length ∧ (([rexI d mi mb, 141] ++ placeL d mb mi ms md)).length ≤ 11 := by
  have q0 := rexI_b d mi mb
  exact ⟨Bytes.append (Bytes.cons (by omega) (Bytes.cons (by omega) Bytes.nil)) (placeL_b _ _ _ _ _), by simp, by have := placeL_length d mb mi ms md; simp; omega⟩
theorem encB_6 (d s t mb mi ms md imm : Int) (_h : imm = 0 ∧ Reg d ∧ Reg s ∧ t = 0 ∧ (mb = 0 ∧ mi = 0 ∧ ms = 0 ∧ md = 0)) : Bytes [rexI s 0 d, 1, bothI s d] ∧ 1 ≤ ([rexI s 0 d, 1, bothI s d]).length ∧ ([rexI s 0 d, 1, bothI s d]).length ≤ 11 := by
  have q0 := rexI_b s 0 d
  have q1 := bothI_b s d
  exact ⟨Bytes.cons (by omega) (Bytes.cons (by omega) (Bytes.cons (by omega) Bytes.nil)), by simp, by simp⟩
theorem encB_7 (d s t mb mi ms md imm : Int) (_h : imm = 0 ∧ Reg d ∧ Reg s ∧ t = 0 ∧ (mb = 0 ∧ mi = 0 ∧ ms = 0 ∧ md = 0)) : Bytes [rexI s 0 d, 17, bothI s d] ∧ 1 ≤ ([rexI s 0 d, 17, bothI s d]).length ∧ ([rexI s 0 d, 17, bothI s d]).length ≤ 11 := by
  have q0 := rexI_b s 0 d
  have q1 := bothI_b s d
  exact ⟨Bytes.cons (by omega) (Bytes.cons (by omega) (Bytes.cons (by omega) Bytes.nil)), by simp, by simp⟩
theorem encB_8 (d s t mb mi ms md imm : Int) (_h : imm = 0 ∧ Reg d ∧ Reg s ∧ t = 0 ∧ (mb = 0 ∧ mi = 0 ∧ ms = 0 ∧ md = 0)) : Bytes [rexI s 0 d, 41, bothI s d] ∧ 1 ≤ ([rexI s 0 d, 41, bothI s d]).length ∧ ([rexI s 0 d, 41, bothI s d]).length ≤ 11 := by
  have q0 := rexI_b s 0 d
  have q1 := bothI_b s d
  exact ⟨Bytes.cons (by omega) (Bytes.cons (by omega) (Bytes.cons (by omega) Bytes.nil)), by simp, by simp⟩
theorem encB_9 (d s t mb mi ms md imm : Int) (_h : imm = 0 ∧ Reg d ∧ Reg s ∧ t = 0 ∧ (mb = 0 ∧ mi = 0 ∧ ms = 0 ∧ md = 0)) : Bytes [rexI s 0 d, 25, bothI s d] ∧ 1 ≤ ([rexI s 0 d, 25, bothI s d]).length ∧ ([rexI s 0 d, 25, bothI s d]).length ≤ 11 := by
  have q0 := rexI_b s 0 d
  have q1 := bothI_b s d
  exact ⟨Bytes.cons (by omega) (Bytes.cons (by omega) (Bytes.cons (by omega) Bytes.nil)), by simp, by simp⟩
theorem encB_10 (d s t mb mi ms md imm : Int) (_h : imm = 0 ∧ Reg d ∧ Reg s ∧ t = 0 ∧ (mb = 0 ∧ mi = 0 ∧ ms = 0 ∧ md = 0)) : Bytes [rexI s 0 d, 33, bothI s d] ∧ 1 ≤ ([rexI s 0 d, 33, bothI s d]).length ∧ ([rexI s 0 d, 33, bothI s d]).length ≤ 11 := by
  have q0 := rexI_b s 0 d
  have q1 := bothI_b s d
  exact ⟨Bytes.cons (by omega) (Bytes.cons (by omega) (Bytes.cons (by omega) Bytes.nil)), by simp, by simp⟩
theorem encB_11 (d s t mb mi ms md imm : Int) (_h : imm = 0 ∧ Reg d ∧ Reg s ∧ t = 0 ∧ (mb = 0 ∧ mi = 0 ∧ ms = 0 ∧ md = 0)) : Bytes [rexI s 0 d, 9, bothI s d] ∧ 1 ≤ ([rexI s 0 d, 9, bothI s d]).length ∧ ([rexI s 0 d, 9, bothI s d]).length ≤ 11 := by
  have q0 := rexI_b s 0 d
  have q1 := bothI_b s d
  exact ⟨Bytes.cons (by omega) (Bytes.cons (by omega) (Bytes.cons (by omega) Bytes.nil)), by simp, by simp⟩
theorem encB_12 (d s t mb mi ms md imm : Int) (_h : imm = 0 ∧ Reg d ∧ Reg s ∧ t = 0 ∧ (mb = 0 ∧ mi = 0 ∧ ms = 0 ∧ md = 0)) : Bytes [rexI s 0 d, 49, bothI s d] ∧ 1 ≤ ([rexI s 0 d, 49, bothI s d]).length ∧ ([rexI s 0 d, 49, bothI s d]).length ≤ 11 := by
  have q0 := rexI_b s 0 d
  have q1 := bothI_b s d
  exact ⟨Bytes.cons (by omega) (Bytes.cons (by omega) (Bytes.cons (by omega) Bytes.nil)), by simp, by simp⟩
theorem encB_13 (d s t mb mi ms md imm : Int) (_h : imm = 0 ∧ Reg d ∧ Reg s ∧ t = 0 ∧ (mb = 0 ∧ mi = 0 ∧ ms = 0 ∧ md = 0)) : Bytes [rexI s 0 d, 57, bothI s d] ∧ 1 ≤ ([rexI s 0 d, 57, bothI s d]).length ∧ ([rexI s 0 d, 57, bothI s d]).length ≤ 11 := by
  have q0 := rexI_b s 0 d
  have q1 := bothI_b s d
  exact ⟨Bytes.cons (by omega) (Bytes.cons (by omega) (Bytes.cons (by omega) Bytes.nil)), by simp, by simp⟩
theorem encB_14 (d s t mb mi ms md imm : Int) (_h : imm = 0 ∧ Reg d ∧ Reg s ∧ t = 0 ∧ (mb = 0 ∧ mi = 0 ∧ ms = 0 ∧ md = 0)) : Bytes [rexI s 0 d, 133, bothI s d] ∧ 1 ≤ ([rexI s 0 d, 133, bothI s d]).length ∧ ([rexI s 0 d, 133, bothI s d]).length ≤ 11 := by
  have q0 := rexI_b s 0 d
  have q1 := bothI_b s d
  exact ⟨Bytes.cons (by omega) (Bytes.cons (by omega) (Bytes.cons (by omega) Bytes.nil)), by simp, by simp⟩
theorem encB_15 (d s t mb mi ms md imm : Int) (_h : (-2147483648 ≤ imm ∧ imm ≤ 2147483647) ∧ Reg d ∧ s = 0 ∧ t = 0 ∧ (mb = 0 ∧ mi = 0 ∧ ms = 0 ∧ md = 0)) : Bytes ([rexI 0 0 d, 129, bothI 0 d] ++ littleL imm 4) ∧ 1 ≤ (([rexI 0 0 d, 129, bothI 0 d] ++ littleL imm 4)).length ∧ (([rexI 0 0 d, 129, bothI 0 d] ++ littleL imm 4)).length ≤ 11 := by
  have q0 := rexI_b 0 0 d
  have q1 := bothI_b 0 d
  exact ⟨Bytes.append (Bytes.cons (by omega) (Bytes.cons (by omega) (Bytes.cons (by omega) Bytes.nil))) (Bytes.little _ _), by simp, by simp [littleL_length]⟩
theorem encB_16 (d s t mb mi ms md imm : Int) (_h : (-2147483648 ≤ imm ∧ imm ≤ 2147483647) ∧ Reg d ∧ s = 0 ∧ t = 0 ∧ (mb = 0 ∧ mi = 0 ∧ ms = 0 ∧ md = 0)) : Bytes ([rexI 0 0 d, 129, bothI 4 d] ++ littleL imm 4) ∧ 1 ≤ (([rexI 0 0 d, 129, bothI 4 d] ++ littleL imm 4)).length ∧ (([rexI 0 0 d, 129, bothI 4 d] ++ littleL imm 4)).length ≤ 11 := by
  have q0 := rexI_b 0 0 d
  have q1 := bothI_b 4 d
  exact ⟨Bytes.append (Bytes.cons (by omega) (Bytes.cons (by omega) (Bytes.cons (by omega) Bytes.nil))) (Bytes.little _ _), by simp, by simp [littleL_length]⟩
theorem encB_17 (d s t mb mi ms md imm : Int) (_h : (-2147483648 ≤ imm ∧ imm ≤ 2147483647) ∧ Reg d ∧ s = 0 ∧ t = 0 ∧ (mb = 0 ∧ mi = 0 ∧ ms = 0 ∧ md = 0)) : Bytes ([rexI 0 0 d, 129, bothI 5 d] ++ littleL imm 4) ∧ 1 ≤ (([rexI 0 0 d, 129, bothI 5 d] ++ littleL imm 4)).length ∧ (([rexI 0 0 d, 129, bothI 5 d] ++ littleL imm 4)).length ≤ 11 := by
  have q0 := rexI_b 0 0 d
  have q1 := bothI_b 5 d
  exact ⟨Bytes.append (Bytes.cons (by omega) (Bytes.cons (by omega) (Bytes.cons (by omega) Bytes.nil))) (Bytes.little _ _), by simp, by simp [littleL_length]⟩
theorem encB_18 (d s t mb mi ms md imm : Int) (_h : (-2147483648 ≤ imm ∧ imm ≤ 2147483647) ∧ Reg d ∧ s = 0 ∧ t = 0 ∧ (mb = 0 ∧ mi = 0 ∧ ms = 0 ∧ md = 0)) : Bytes ([rexI 0 0 d, 129, bothI 7 d] ++ littleL imm 4) ∧ 1 ≤ (([rexI 0 0 d, 129, bothI 7 d] ++ littleL imm 4)).length ∧ (([rexI 0 0 d, 129, bothI 7 d] ++ littleL imm 4)).length ≤ 11 := by
  have q0 := rexI_b 0 0 d
  have q1 := bothI_b 7 d
  exact ⟨Bytes.append (Bytes.cons (by omega) (Bytes.cons (by omega) (Bytes.cons (by omega) Bytes.nil))) (Bytes.little _ _), by simp, by simp [littleL_length]⟩
theorem encB_19 (d s t mb mi ms md imm : Int) (h : imm = 0 ∧ Reg d ∧ Reg s ∧ Reg t ∧ (mb = 0 ∧ mi = 0 ∧ ms = 0 ∧ md = 0) ∧ d ≠ s) : Bytes [196, mulx1 d t, mulx2 s, 246, bothI d t] ∧ 1 ≤ ([196, mulx1 d t, mulx2 s, 246, bothI d t]).length ∧ ([196, mulx1 d t, mulx2 s, 246, bothI d t]).length ≤ 11 := by
  have q0 := bothI_b d t
  have l1 := hiR_b d
  have l2 := hiR_b t
  have l3 := h.2.2.1
  unfold Reg at l3
  unfold mulx1 mulx2
  exact ⟨Bytes.cons (by omega) (Bytes.cons (by omega) (Bytes.cons (by omega) (Bytes.cons (by omega) (Bytes.cons (by omega) Bytes.nil)))), by simp, by simp⟩
theorem encB_20 (d s t mb mi ms md imm : Int) (_h : imm = 0 ∧ Reg d ∧ Reg s ∧ t = 0 ∧ (mb = 0 ∧ mi = 0 ∧ ms = 0 ∧ md = 0)) : Bytes [102, rexI d 0 s, 15, 56, 246, bothI d s] ∧ 1 ≤ ([102, rexI d 0 s, 15, 56, 246, bothI d s]).length ∧ ([102, rexI d 0 s, 15, 56, 246, bothI d s]).length ≤ 11 := by
  have q0 := rexI_b d 0 s
  have q1 := bothI_b d s
  exact ⟨Bytes.cons (by omega) (Bytes.cons (by omega) (Bytes.cons (by omega) (Bytes.cons (by omega) (Bytes.cons (by omega) (Bytes.cons (by omega) Bytes.nil))))), by simp, by simp⟩
theorem encB_21 (d s t mb mi ms md imm : Int) (_h : imm = 0 ∧ Reg d ∧ Reg s ∧ t = 0 ∧ (mb = 0 ∧ mi = 0 ∧ ms = 0 ∧ md = 0)) : Bytes [243, rexI d 0 s, 15, 56, 246, bothI d s] ∧ 1 ≤ ([243, rexI d 0 s, 15, 56, 246, bothI d s]).length ∧ ([243, rexI d 0 s, 15, 56, 246, bothI d s]).length ≤ 11 := by
  have q0 := rexI_b d 0 s
  have q1 := bothI_b d s
  exact ⟨Bytes.cons (by omega) (Bytes.cons (by omega) (Bytes.cons (by omega) (Bytes.cons (by omega) (Bytes.cons (by omega) (Bytes.cons (by omega) Bytes.nil))))), by simp, by simp⟩
theorem encB_22 (d s t mb mi ms md imm : Int) (_h : imm = 0 ∧ Reg d ∧ s = 0 ∧ t = 0 ∧ (mb = 0 ∧ mi = 0 ∧ ms = 0 ∧ md = 0)) : Bytes [rexI 0 0 d, 247, bothI 3 d] ∧ 1 ≤ ([rexI 0 0 d, 247, bothI 3 d]).length ∧ ([rexI 0 0 d, 247, bothI 3 d]).length ≤ 11 := by
  have q0 := rexI_b 0 0 d
  have q1 := bothI_b 3 d
  exact ⟨Bytes.cons (by omega) (Bytes.cons (by omega) (Bytes.cons (by omega) Bytes.nil)), by simp, by simp⟩
theorem encB_23 (d s t mb mi ms md imm : Int) (_h : imm = 0 ∧ Reg d ∧ s = 0 ∧ t = 0 ∧ (mb = 0 ∧ mi = 0 ∧ ms = 0 ∧ md = 0)) : Bytes [rexI 0 0 d, 247, bothI 2 d] ∧ 1 ≤ ([rexI 0 0 d, 247, bothI 2 d]).length ∧ ([rexI 0 0 d, 247, bothI 2 d]).length ≤ 11 := by
  have q0 := rexI_b 0 0 d
  have q1 := bothI_b 2 d
  exact ⟨Bytes.cons (by omega) (Bytes.cons (by omega) (Bytes.cons (by omega) Bytes.nil)), by simp, by simp⟩
theorem encB_24 (d s t mb mi ms md imm : Int) (h : (1 ≤ imm ∧ imm ≤ 63) ∧ Reg d ∧ s = 0 ∧ t = 0 ∧ (mb = 0 ∧ mi = 0 ∧ ms = 0 ∧ md = 0)) : Bytes ([rexI 0 0 d, 193, bothI 4 d] ++ [imm]) ∧ 1 ≤ (([rexI 0 0 d, 193, bothI 4 d] ++ [imm])).length ∧ (([rexI 0 0 d, 193, bothI 4 d] ++ [imm])).length ≤ 11 := by
  have q0 := rexI_b 0 0 d
  have q1 := bothI_b 4 d
  have l4 := h.1
  exact ⟨Bytes.append (Bytes.cons (by omega) (Bytes.cons (by omega) (Bytes.cons (by omega) Bytes.nil))) (Bytes.cons (by omega) Bytes.nil), by simp, by simp⟩
theorem encB_25 (d s t mb mi ms md imm : Int) (h : (1 ≤ imm ∧ imm ≤ 63) ∧ Reg d ∧ s = 0 ∧ t = 0 ∧ (mb = 0 ∧ mi = 0 ∧ ms = 0 ∧ md = 0)) : Bytes ([rexI 0 0 d, 193, bothI 5 d] ++ [imm]) ∧ 1 ≤ (([rexI 0 0 d, 193, bothI 5 d] ++ [imm])).length ∧ (([rexI 0 0 d, 193, bothI 5 d] ++ [imm])).length ≤ 11 := by
  have q0 := rexI_b 0 0 d
  have q1 := bothI_b 5 d
  have l4 := h.1
  exact ⟨Bytes.append (Bytes.cons (by omega) (Bytes.cons (by omega) (Bytes.cons (by omega) Bytes.nil))) (Bytes.cons (by omega) Bytes.nil), by simp, by simp⟩
theorem encB_26 (d s t mb mi ms md imm : Int) (_h : imm = 0 ∧ Reg d ∧ Reg s ∧ t = 0 ∧ (mb = 0 ∧ mi = 0 ∧ ms = 0 ∧ md = 0)) : Bytes [rexI d 0 s, 15, 66, bothI d s] ∧ 1 ≤ ([rexI d 0 s, 15, 66, bothI d s]).length ∧ ([rexI d 0 s, 15, 66, bothI d s]).length ≤ 11 := by
  have q0 := rexI_b d 0 s
  have q1 := bothI_b d s
  exact ⟨Bytes.cons (by omega) (Bytes.cons (by omega) (Bytes.cons (by omega) (Bytes.cons (by omega) Bytes.nil))), by simp, by simp⟩
theorem encB_27 (d s t mb mi ms md imm : Int) (_h : imm = 0 ∧ Reg d ∧ Reg s ∧ t = 0 ∧ (mb = 0 ∧ mi = 0 ∧ ms = 0 ∧ md = 0)) : Bytes [rexI d 0 s, 15, 69, bothI d s] ∧ 1 ≤ ([rexI d 0 s, 15, 69, bothI d s]).length ∧ ([rexI d 0 s, 15, 69, bothI d s]).length ≤ 11 := by
  have q0 := rexI_b d 0 s
  have q1 := bothI_b d s
  exact ⟨Bytes.cons (by omega) (Bytes.cons (by omega) (Bytes.cons (by omega) (Bytes.cons (by omega) Bytes.nil))), by simp, by simp⟩
theorem encB_28 (d s t mb mi ms md imm : Int) (_h : imm = 0 ∧ d = 0 ∧ Reg s ∧ t = 0 ∧ (mb = 0 ∧ mi = 0 ∧ ms = 0 ∧ md = 0)) : Bytes (stackL 80 s) ∧ 1 ≤ (stackL 80 s).length ∧ (stackL 80 s).length ≤ 11 := by
  exact stackL_b (by omega)
theorem encB_29 (d s t mb mi ms md imm : Int) (_h : imm = 0 ∧ Reg d ∧ s = 0 ∧ t = 0 ∧ (mb = 0 ∧ mi = 0 ∧ ms = 0 ∧ md = 0)) : Bytes (stackL 88 d) ∧ 1 ≤ (stackL 88 d).length ∧ (stackL 88 d).length ≤ 11 := by
  exact stackL_b (by omega)
theorem encB_30 (d s t mb mi ms md imm : Int) (_h : (-2147483648 ≤ imm ∧ imm ≤ 2147483647) ∧ d = 0 ∧ s = 0 ∧ t = 0 ∧ (mb = 0 ∧ mi = 0 ∧ ms = 0 ∧ md = 0)) : Bytes (jumpL 233 0 imm) ∧ 1 ≤ (jumpL 233 0 imm).length ∧ (jumpL 233 0 imm).length ≤ 11 := by
  exact jumpL_b (by omega) (by omega)
theorem encB_31 (d s t mb mi ms md imm : Int) (_h : (-2147483648 ≤ imm ∧ imm ≤ 2147483647) ∧ d = 0 ∧ s = 0 ∧ t = 0 ∧ (mb = 0 ∧ mi = 0 ∧ ms = 0 ∧ md = 0)) : Bytes (jumpL 15 133 imm) ∧ 1 ≤ (jumpL 15 133 imm).length ∧ (jumpL 15 133 imm).length ≤ 11 := by
  exact jumpL_b (by omega) (by omega)
theorem encB_32 (d s t mb mi ms md imm : Int) (_h : (-2147483648 ≤ imm ∧ imm ≤ 2147483647) ∧ d = 0 ∧ s = 0 ∧ t = 0 ∧ (mb = 0 ∧ mi = 0 ∧ ms = 0 ∧ md = 0)) : Bytes (jumpL 15 130 imm) ∧ 1 ≤ (jumpL 15 130 imm).length ∧ (jumpL 15 130 imm).length ≤ 11 := by
  exact jumpL_b (by omega) (by omega)
theorem encB_33 (d s t mb mi ms md imm : Int) (_h : imm = 0 ∧ d = 0 ∧ s = 0 ∧ t = 0 ∧ (mb = 0 ∧ mi = 0 ∧ ms = 0 ∧ md = 0)) : Bytes [195] ∧ 1 ≤ ([195]).length ∧ ([195]).length ≤ 11 := by
  exact ⟨Bytes.cons (by omega) Bytes.nil, by simp, by simp⟩
theorem encL_bytes {op d s t mb mi ms md imm : Int} (h : chk op d s t mb mi ms md imm = true) : Bytes (encL op d s t mb mi ms md imm) ∧ 1 ≤ (encL op d s t mb mi ms md imm).length ∧ (encL op d s t mb mi ms md imm).length ≤ 11 := by
  have hr := chk_range h
  have : op = 1 ∨ op = 2 ∨ op = 3 ∨ op = 4 ∨ op = 5 ∨ op = 6 ∨ op = 7 ∨ op = 8 ∨ op = 9 ∨ op = 10 ∨ op = 11 ∨ op = 12 ∨ op = 13 ∨ op = 14 ∨ op = 15 ∨ op = 16 ∨ op = 17 ∨ op = 18 ∨ op = 19 ∨ op = 20 ∨ op = 21 ∨ op = 22 ∨ op = 23 ∨ op = 24 ∨ op = 25 ∨ op = 26 ∨ op = 27 ∨ op = 28 ∨ op = 29 ∨ op = 30 ∨ op = 31 ∨ op = 32 ∨ op = 33 := by omega
  rcases this with rfl | rfl | rfl | rfl | rfl | rfl | rfl | rfl | rfl | rfl | rfl | rfl | rfl | rfl | rfl | rfl | rfl | rfl | rfl | rfl | rfl | rfl | rfl | rfl | rfl | rfl | rfl | rfl | rfl | rfl | rfl | rfl | rfl
  · rw [chk_1] at h; exact encB_1 d s t mb mi ms md imm h
  · rw [chk_2] at h; exact encB_2 d s t mb mi ms md imm h
  · rw [chk_3] at h; exact encB_3 d s t mb mi ms md imm h
  · rw [chk_4] at h; exact encB_4 d s t mb mi ms md imm h
  · rw [chk_5] at h; exact encB_5 d s t mb mi ms md imm h
  · rw [chk_6] at h; exact encB_6 d s t mb mi ms md imm h
  · rw [chk_7] at h; exact encB_7 d s t mb mi ms md imm h
  · rw [chk_8] at h; exact encB_8 d s t mb mi ms md imm h
  · rw [chk_9] at h; exact encB_9 d s t mb mi ms md imm h
  · rw [chk_10] at h; exact encB_10 d s t mb mi ms md imm h
  · rw [chk_11] at h; exact encB_11 d s t mb mi ms md imm h
  · rw [chk_12] at h; exact encB_12 d s t mb mi ms md imm h
  · rw [chk_13] at h; exact encB_13 d s t mb mi ms md imm h
  · rw [chk_14] at h; exact encB_14 d s t mb mi ms md imm h
  · rw [chk_15] at h; exact encB_15 d s t mb mi ms md imm h
  · rw [chk_16] at h; exact encB_16 d s t mb mi ms md imm h
  · rw [chk_17] at h; exact encB_17 d s t mb mi ms md imm h
  · rw [chk_18] at h; exact encB_18 d s t mb mi ms md imm h
  · rw [chk_19] at h; exact encB_19 d s t mb mi ms md imm h
  · rw [chk_20] at h; exact encB_20 d s t mb mi ms md imm h
  · rw [chk_21] at h; exact encB_21 d s t mb mi ms md imm h
  · rw [chk_22] at h; exact encB_22 d s t mb mi ms md imm h
  · rw [chk_23] at h; exact encB_23 d s t mb mi ms md imm h
  · rw [chk_24] at h; exact encB_24 d s t mb mi ms md imm h
  · rw [chk_25] at h; exact encB_25 d s t mb mi ms md imm h
  · rw [chk_26] at h; exact encB_26 d s t mb mi ms md imm h
  · rw [chk_27] at h; exact encB_27 d s t mb mi ms md imm h
  · rw [chk_28] at h; exact encB_28 d s t mb mi ms md imm h
  · rw [chk_29] at h; exact encB_29 d s t mb mi ms md imm h
  · rw [chk_30] at h; exact encB_30 d s t mb mi ms md imm h
  · rw [chk_31] at h; exact encB_31 d s t mb mi ms md imm h
  · rw [chk_32] at h; exact encB_32 d s t mb mi ms md imm h
  · rw [chk_33] at h; exact encB_33 d s t mb mi ms md imm h
theorem foldl_push (bs : List Int) : ∀ s : ByteArray, (bs.foldl (fun r n => r.push (UInt8.ofNat n.toNat)) s).data.toList = s.data.toList ++ bs.map (fun n => UInt8.ofNat n.toNat) := by
  induction bs with
  | nil => intro s; simp
  | cons b bs ih => intro s; rw [List.foldl_cons, ih]; simp [ByteArray.push]
theorem strB_list (bs : List Int) : (strB bs).data.toList = bs.map (fun n => UInt8.ofNat n.toNat) := by
  unfold strB; rw [foldl_push]; rfl
theorem ba_ext {a b : ByteArray} (h : a.data.toList = b.data.toList) : a = b := by
  exact ByteArray.ext (Array.toList_inj.1 h)
theorem strB_size (bs : List Int) : (strB bs).size = bs.length := by
  show (strB bs).data.size = _
  rw [← Array.length_toList, strB_list, List.length_map]
theorem Ins.out_ok {x : Ins} (h : x.chk = true) : x.out = strB x.enc := by unfold Ins.out outE; exact if_pos h
theorem Ins.out_bad {x : Ins} (h : x.chk = false) : x.out = ⟨#[]⟩ := by unfold Ins.out outE; exact if_neg (by show ¬ x.chk = true; rw [h]; decide)
theorem Ins.enc_bytes {x : Ins} (h : x.chk = true) : Bytes x.enc ∧ 1 ≤ x.enc.length ∧ x.enc.length ≤ 11 := encL_bytes h
theorem Ins.out_size (x : Ins) : x.out.size ≤ 11 := by
  cases h : x.chk
  · rw [Ins.out_bad h]; decide
  · rw [Ins.out_ok h, strB_size]; exact (Ins.enc_bytes h).2.2
end Go.Proofs.Ytbcaelhchmoigaa
namespace Go.Proofs.Ytbcaelhchmoigaa
open Go.RowKit Calm
def Ins.ok (x : Ins) : Prop := (-9223372036854775808 ≤ x.md ∧ x.md ≤ 9223372036854775807) ∧ (-9223372036854775808 ≤ x.imm ∧ x.imm ≤ 9223372036854775807)
def InsRow (w : World) (b off : Nat) (l : List Ins) : Prop := ∀ (j : Nat) (x : Ins), l[j]? = some x → ∀ (k : Nat) (v : Value), x.vs[k]? = some v → w.cell? ⟨b, off + j * 9 + k, none⟩ = some v
def catO (l : List Ins) : ByteArray := l.foldl (fun r x => r ++ x.out) ⟨#[]⟩
def allOk (l : List Ins) : Bool := l.all Ins.chk
def outs (l : List Ins) : ByteArray := if allOk l then catO l else ⟨#[]⟩
def IsS (w : World) (B : Nat) (v : Value) (s : ByteArray) : Prop := w.ownsRow B 5 1 v s.size (Lib.strCells s)
def bytesOf (s : ByteArray) : List Int := s.data.toList.map fun b => (b.toNat : Int)
theorem bytesOf_length (s : ByteArray) : (bytesOf s).length = s.size := by unfold bytesOf; simp
theorem strB_bytesOf (s : ByteArray) : strB (bytesOf s) = s := by
  apply ba_ext
  rw [strB_list]
  unfold bytesOf
  rw [List.map_map]
  conv => rhs; rw [← List.map_id s.data.toList]
  apply List.map_congr_left
  intro b _
  show UInt8.ofNat ((b.toNat : Int)).toNat = b
  simp
theorem IsS.toB {w : World} {B : Nat} {v : Value} {s : ByteArray} (h : IsS w B v s) : IsB w B v (bytesOf s) := by
  have e : Lib.strCells s = (bytesOf s).map (Value.int .u8) := by unfold Lib.strCells bytesOf; rw [List.map_map]; rfl
  unfold IsS at h
  unfold IsB
  rw [bytesOf_length, ← e]; exact h
theorem conv_strS {w : World} {B : Nat} {v : Value} {s : ByteArray} (h : IsS w B v s) : (convert 59 9 v).run Try.prog w = .ok (.string s) w := by
  have := conv_str h.toB
  rwa [strB_bytesOf] at this
theorem out_size' (op d s t mb mi ms md imm : Int) : (outE op d s t mb mi ms md imm).size ≤ 11 := by
  have := Ins.out_size ⟨op, d, s, t, mb, mi, ms, md, imm⟩
  rwa [Ins.out] at this
attribute [local irreducible] outE chk outs catO allOk
end Go.Proofs.Ytbcaelhchmoigaa
namespace Go.Proofs.Ytbcaelhchmoigaa
abbrev Cur := List Int × Bool
def nx : Cur → Int × Cur
  | ([], _) => (0, [], true)
  | (b :: r, k) => (b, r, k)
def valD : Nat → Cur → Int × Cur
  | 0, c => (0, c)
  | k + 1, c => ((nx c).1 + 256 * (valD k (nx c).2).1, (valD k (nx c).2).2)
def half (k : Nat) : Int := if k = 1 then 128 else if k = 4 then 2147483648 else 9223372036854775808
def sgnD (k : Nat) (v : Int) : Int := if half k ≤ v then v - 2 * half k else v
def numD (k : Nat) (c : Cur) : Int × Cur := (sgnD k (valD k c).1, (valD k c).2)
def midD (r rm : Int) : Int := rm / 8 % 8 + 8 * (r / 4 % 2)
def idxD (r sib : Int) : Int := sib / 8 % 8 + 8 * (r / 2 % 2)
def lastD (r rm : Int) : Int := rm % 8 + 8 * (r % 2)
def powD (s : Int) : Int := if s = 0 then 1 else if s = 1 then 2 else if s = 2 then 4 else 8
def sibD (r rm : Int) (c : Cur) : (Int × Int × Int) × Cur :=
  if rm % 8 = 4 then ((lastD r (nx c).1, if idxD r (nx c).1 = 4 then -1 else idxD r (nx c).1, if idxD r (nx c).1 = 4 then 1 else powD ((nx c).1 / 64)), (nx c).2)
  else ((lastD r rm, -1, 1), c)
def dispD (rm : Int) (c : Cur) : Int × Cur := if rm / 64 = 1 then numD 1 c else if rm / 64 = 2 then numD 4 c else (0, c)
def pairOp (b : Int) : Int := if b = 1 then 6 else if b = 17 then 7 else if b = 41 then 8 else if b = 25 then 9 else if b = 33 then 10 else if b = 9 then 11 else if b = 49 then 12 else if b = 57 then 13 else if b = 133 then 14 else 0
def grpOp (b m : Int) : Int × Nat :=
  if b = 129 then (if m = 0 then (15, 4) else if m = 4 then (16, 4) else if m = 5 then (17, 4) else if m = 7 then (18, 4) else (0, 0))
  else if b = 247 then (if m = 3 then (22, 0) else if m = 2 then (23, 0) else (0, 0))
  else if b = 193 then (if m = 4 then (24, 1) else if m = 5 then (25, 1) else (0, 0))
  else (0, 0)
def movD (op r rm : Int) (c : Cur) : Ins × Cur :=
  (⟨op, if op = 4 then 0 else midD r rm, if op = 4 then midD r rm else 0, 0, (sibD r rm c).1.1, (sibD r rm c).1.2.1, (sibD r rm c).1.2.2, (dispD rm (sibD r rm c).2).1, 0⟩, (dispD rm (sibD r rm c).2).2)
def pairB (op r rm : Int) (c : Cur) : Ins × Cur := (⟨op, lastD r rm, midD r rm, 0, 0, 0, 0, 0, 0⟩, c)
def storeB (r rm : Int) (c : Cur) : Ins × Cur := if rm / 64 = 3 then pairB 1 r rm c else movD 4 r rm c
def cmovOp (x : Int) : Int := if x = 66 then 26 else if x = 69 then 27 else 0
def cmovB (x r rm : Int) (c : Cur) : Ins × Cur := (⟨cmovOp x, midD r rm, lastD r rm, 0, 0, 0, 0, 0, 0⟩, c)
def grpC (g : Int × Nat) (r rm : Int) (c : Cur) : Ins × Cur :=
  if g.2 = 0 then (⟨g.1, lastD r rm, 0, 0, 0, 0, 0, 0, 0⟩, c) else (⟨g.1, lastD r rm, 0, 0, 0, 0, 0, 0, (numD g.2 c).1⟩, (numD g.2 c).2)
def immB (r b : Int) (c : Cur) : Ins × Cur := (⟨2, lastD r b, 0, 0, 0, 0, 0, 0, (numD 8 c).1⟩, (numD 8 c).2)
def wideB (r b : Int) (c : Cur) : Ins × Cur :=
  if pairOp b ≠ 0 then pairB (pairOp b) r (nx c).1 (nx c).2
  else if b = 139 then movD 3 r (nx c).1 (nx c).2
  else if b = 141 then movD 5 r (nx c).1 (nx c).2
  else if b = 137 then storeB r (nx c).1 (nx c).2
  else if b / 8 = 23 then immB r b c
  else if b = 15 then cmovB (nx c).1 r (nx (nx c).2).1 (nx (nx c).2).2
  else grpC (grpOp b ((nx c).1 / 8 % 8)) r (nx c).1 (nx c).2
def wideD (r : Int) (c : Cur) : Ins × Cur := wideB r (nx c).1 (nx c).2
def jccOp (x : Int) : Int := if x = 133 then 31 else if x = 130 then 32 else 0
def or8 (x : Int) : Int := if x / 8 % 2 = 0 then x + 8 else x
def up8 (i : Ins) : Ins := if i.op = 28 then { i with s := or8 i.s } else { i with d := or8 i.d }
def mulD (x y rm : Int) : Ins := ⟨19, midD ((1 - x / 128) * 4 + (1 - x / 32 % 2)) rm, 15 - y / 8 % 16, lastD ((1 - x / 128) * 4 + (1 - x / 32 % 2)) rm, 0, 0, 0, 0, 0⟩
def chainD (op : Int) (c : Cur) : Ins × Cur :=
  (⟨op, midD (nx c).1 (nx (nx (nx (nx (nx c).2).2).2).2).1, lastD (nx c).1 (nx (nx (nx (nx (nx c).2).2).2).2).1, 0, 0, 0, 0, 0, 0⟩, (nx (nx (nx (nx (nx c).2).2).2).2).2)
def anyD : List Int → Bool → Ins × Cur
  | [], _ => wideD 0 ([], true)
  | b :: r, k =>
    if b = 195 then (⟨33, 0, 0, 0, 0, 0, 0, 0, 0⟩, r, k)
    else if b / 8 = 10 then (⟨28, 0, b % 8, 0, 0, 0, 0, 0, 0⟩, r, k)
    else if b / 8 = 11 then (⟨29, b % 8, 0, 0, 0, 0, 0, 0, 0⟩, r, k)
    else if b = 65 then (up8 (anyD r k).1, (anyD r k).2)
    else if b = 233 then (⟨30, 0, 0, 0, 0, 0, 0, 0, (numD 4 (r, k)).1⟩, (numD 4 (r, k)).2)
    else if b = 15 then (⟨jccOp (nx (r, k)).1, 0, 0, 0, 0, 0, 0, 0, (numD 4 (nx (r, k)).2).1⟩, (numD 4 (nx (r, k)).2).2)
    else if b = 196 then (mulD (nx (r, k)).1 (nx (nx (r, k)).2).1 (nx (nx (nx (nx (r, k)).2).2).2).1, (nx (nx (nx (nx (r, k)).2).2).2).2)
    else if b = 102 then chainD 20 (r, k)
    else if b = 243 then chainD 21 (r, k)
    else wideD b (r, k)
theorem nx_cons (b : Int) (r : List Int) (k : Bool) : nx (b :: r, k) = (b, r, k) := rfl
theorem mid_both (a x b : Int) (ha : Reg a) (_hb : Reg b) (hx : hiR x = 0 ∨ hiR x = 1) : midD (rexI a x b) (bothI a b) = a ∧ lastD (rexI a x b) (bothI a b) = b := by
  unfold Reg at ha _hb
  unfold midD lastD rexI bothI
  unfold loR
  have h1 : hiR a = a / 8 := by unfold hiR; split <;> omega
  have h2 : hiR b = b / 8 := by unfold hiR; split <;> omega
  rw [h1, h2]
  omega
theorem anyD_rex (R : Int) (l : List Int) (k : Bool) (h : 72 ≤ R ∧ R ≤ 79) : anyD (R :: l) k = wideD R (l, k) := by
  rw [anyD, if_neg (by omega), if_neg (by omega), if_neg (by omega), if_neg (by omega), if_neg (by omega), if_neg (by omega), if_neg (by omega), if_neg (by omega), if_neg (by omega)]
theorem half1 : half 1 = 128 := rfl
theorem half4 : half 4 = 2147483648 := rfl
theorem half8 : half 8 = 9223372036854775808 := rfl
theorem sgn_lo {k : Nat} {v : Int} (h : v < half k) : sgnD k v = v := by unfold sgnD; rw [if_neg (by omega)]
theorem sgn_hi {k : Nat} {v : Int} (h : half k ≤ v) : sgnD k v = v - 2 * half k := by unfold sgnD; rw [if_pos h]
theorem num1 (n : Int) (r : List Int) (b : Bool) (h : -128 ≤ n ∧ n ≤ 127) : numD 1 (littleL n 1 ++ r, b) = (n, r, b) := by
  have e : valD 1 (littleL n 1 ++ r, b) = (n % 256, r, b) := by
    simp only [valD, littleL, List.cons_append, List.nil_append, nx_cons, Prod.mk.injEq, and_true]
    omega
  unfold numD
  rw [e]
  rcases Int.lt_or_le (n % 256) (half 1) with h1 | h1
  · rw [sgn_lo h1]; rw [half1] at h1; simp only [Prod.mk.injEq, and_true]; omega
  · rw [sgn_hi h1]; rw [half1] at h1 ⊢; simp only [Prod.mk.injEq, and_true]; omega
theorem num4 (n : Int) (r : List Int) (b : Bool) (h : -2147483648 ≤ n ∧ n ≤ 2147483647) : numD 4 (littleL n 4 ++ r, b) = (n, r, b) := by
  have e : valD 4 (littleL n 4 ++ r, b) = (n % 4294967296, r, b) := by
    simp only [valD, littleL, List.cons_append, List.nil_append, nx_cons, Prod.mk.injEq, and_true]
    omega
  unfold numD
  rw [e]
  rcases Int.lt_or_le (n % 4294967296) (half 4) with h1 | h1
  · rw [sgn_lo h1]; rw [half4] at h1; simp only [Prod.mk.injEq, and_true]; omega
  · rw [sgn_hi h1]; rw [half4] at h1 ⊢; simp only [Prod.mk.injEq, and_true]; omega
theorem num8 (n : Int) (r : List Int) (b : Bool) (h : -9223372036854775808 ≤ n ∧ n ≤ 9223372036854775807) : numD 8 (littleL n 8 ++ r, b) = (n, r, b) := by
  have e : valD 8 (littleL n 8 ++ r, b) = (n % 18446744073709551616, r, b) := by
    simp only [valD, littleL, List.cons_append, List.nil_append, nx_cons, Prod.mk.injEq, and_true]
    omega
  unfold numD
  rw [e]
  rcases Int.lt_or_le (n % 18446744073709551616) (half 8) with h1 | h1
  · rw [sgn_lo h1]; rw [half8] at h1; simp only [Prod.mk.injEq, and_true]; omega
  · rw [sgn_hi h1]; rw [half8] at h1 ⊢; simp only [Prod.mk.injEq, and_true]; omega
theorem num1u (n : Int) (r : List Int) (b : Bool) (h : 1 ≤ n ∧ n ≤ 63) : numD 1 (n :: r, b) = (n, r, b) := by
  have e : valD 1 (n :: r, b) = (n, r, b) := by
    simp only [valD, nx_cons, Prod.mk.injEq, and_true]
    omega
  unfold numD
  rw [e, sgn_lo (by rw [half1]; omega)]
theorem plc_open {mb mi ms md : Int} (h : plc mb mi ms md = true) : Reg mb ∧ (-2147483648 ≤ md ∧ md ≤ 2147483647) ∧ (mi = -1 ∧ ms = 1 ∨ mi ≠ -1 ∧ Reg mi ∧ mi ≠ 4 ∧ (ms = 1 ∨ ms = 2 ∨ ms = 4 ∨ ms = 8)) := by
  have f := plc_facts h
  refine ⟨f.1, f.2.1, ?_⟩
  unfold plc at h
  simp only [Bool.and_eq_true] at h
  by_cases hm : mi = -1
  · have h2 := h.2
    rw [if_pos hm] at h2
    exact .inl ⟨hm, by simpa using h2⟩
  · have h2 := h.2
    rw [if_neg hm] at h2
    simp only [Bool.and_eq_true, bne_iff_ne] at h2
    exact .inr ⟨hm, reg_of h2.1.1, h2.1.2, f.2.2.2⟩
theorem disp_dec (mb md rm x : Int) (r : List Int) (b : Bool) (hx : 0 ≤ x ∧ x ≤ 63) (hrm : rm = 64 * modI mb md + x) (hd : -2147483648 ≤ md ∧ md ≤ 2147483647) : dispD rm (littleL md (lenI mb md) ++ r, b) = (md, r, b) := by
  unfold dispD
  by_cases h1 : md = 0 ∧ loR mb ≠ 5
  · have e1 : modI mb md = 0 := by unfold modI; rw [if_pos h1]
    have e2 : lenI mb md = 0 := by unfold lenI; rw [if_pos h1]
    rw [e1] at hrm
    rw [e2, if_neg (by omega), if_neg (by omega), h1.1]; rfl
  · cases hb : byteB md
    · have e1 : modI mb md = 2 := by unfold modI; rw [if_neg h1, hb]; rfl
      have e2 : lenI mb md = 4 := by unfold lenI; rw [if_neg h1, hb]; rfl
      rw [e1] at hrm
      rw [e2, if_neg (by omega), if_pos (by omega), num4 _ _ _ hd]
    · have e1 : modI mb md = 1 := by unfold modI; rw [if_neg h1, hb]; rfl
      have e2 : lenI mb md = 1 := by unfold lenI; rw [if_neg h1, hb]; rfl
      rw [e1] at hrm
      have hb' : -128 ≤ md ∧ md ≤ 127 := by unfold byteB at hb; simpa using hb
      rw [e2, if_pos (by omega), num1 _ _ _ hb']
theorem modI_b (mb md : Int) : 0 ≤ modI mb md ∧ modI mb md ≤ 2 := by unfold modI; split <;> (try split) <;> omega
theorem reg_split {x : Int} (h : Reg x) : x = loR x + 8 * hiR x := by unfold Reg at h; unfold loR hiR; split <;> omega
theorem hi_none : hiR (-1) = 0 := by decide
theorem pow_scale {ms : Int} (h : ms = 1 ∨ ms = 2 ∨ ms = 4 ∨ ms = 8) : powD (scaleI ms) = ms ∧ 0 ≤ scaleI ms ∧ scaleI ms ≤ 3 := by
  rcases h with rfl | rfl | rfl | rfl <;> decide
theorem rex_parts (a x b : Int) : rexI a x b / 4 % 2 = hiR a ∧ rexI a x b / 2 % 2 = hiR x ∧ rexI a x b % 2 = hiR b := by
  have h1 := hiR_b a; have h2 := hiR_b x; have h3 := hiR_b b
  unfold rexI; omega
theorem place_dec (mid mb mi ms md : Int) (hm : Reg mid) (h : plc mb mi ms md = true) (r : List Int) (b : Bool) :
    ∃ rm l, placeL mid mb mi ms md ++ r = rm :: l ∧ 0 ≤ rm ∧ rm < 192 ∧ ∀ op, movD op (rexI mid mi mb) rm (l, b) = (⟨op, if op = 4 then 0 else mid, if op = 4 then mid else 0, 0, mb, mi, ms, md, 0⟩, r, b) := by
  obtain ⟨hb, hd, hi⟩ := plc_open h
  have m1 := modI_b mb md
  have l1 := loR_b mid; have l2 := loR_b mb; have l3 := loR_b mi
  have r1 := reg_split hm; have r2 := reg_split hb
  obtain ⟨p1, p2, p3⟩ := rex_parts mid mi mb
  have hlo : loR mid = loR mid := rfl
  by_cases hn : mi = -1
  · rcases hi with ⟨_, hs⟩ | ⟨h1, _⟩
    · by_cases h4 : loR mb = 4
      · refine ⟨rmI (modI mb md) mid 4, sibI ms 4 mb :: (littleL md (lenI mb md) ++ r), ?_, ?_, ?_, ?_⟩
        · unfold placeL; rw [if_neg (by simp [hn]), if_pos h4]; rfl
        · unfold rmI; omega
        · unfold rmI; omega
        · intro op
          have hsc : scaleI ms = 0 := by rw [hs]; rfl
          have hmid : midD (rexI mid mi mb) (rmI (modI mb md) mid 4) = mid := by unfold midD rmI; rw [p1]; omega
          have hsib : sibD (rexI mid mi mb) (rmI (modI mb md) mid 4) (sibI ms 4 mb :: (littleL md (lenI mb md) ++ r), b) = ((mb, mi, ms), littleL md (lenI mb md) ++ r, b) := by
            unfold sibD
            rw [if_pos (by unfold rmI; omega), nx_cons]
            have hx : idxD (rexI mid mi mb) (sibI ms 4 mb) = 4 := by unfold idxD sibI; rw [p2, hn, hi_none, hsc]; omega
            have hlast : lastD (rexI mid mi mb) (sibI ms 4 mb) = mb := by unfold lastD sibI; rw [p3, hsc]; omega
            rw [hx, hlast, hn, hs]; rfl
          unfold movD
          rw [hsib, hmid, disp_dec mb md _ (8 * loR mid + 4) r b (by omega) (by unfold rmI; omega) hd]
      · refine ⟨rmI (modI mb md) mid (loR mb), littleL md (lenI mb md) ++ r, ?_, ?_, ?_, ?_⟩
        · unfold placeL; rw [if_neg (by simp [hn]), if_neg h4]; rfl
        · unfold rmI; omega
        · unfold rmI; omega
        · intro op
          have hmid : midD (rexI mid mi mb) (rmI (modI mb md) mid (loR mb)) = mid := by unfold midD rmI; rw [p1]; omega
          have hsib : sibD (rexI mid mi mb) (rmI (modI mb md) mid (loR mb)) (littleL md (lenI mb md) ++ r, b) = ((mb, mi, ms), littleL md (lenI mb md) ++ r, b) := by
            unfold sibD
            rw [if_neg (by unfold rmI; omega)]
            have hlast : lastD (rexI mid mi mb) (rmI (modI mb md) mid (loR mb)) = mb := by unfold lastD rmI; rw [p3]; omega
            rw [hlast, hn, hs]
          unfold movD
          rw [hsib, hmid, disp_dec mb md _ (8 * loR mid + loR mb) r b (by omega) (by unfold rmI; omega) hd]
    · exact absurd hn h1
  · rcases hi with ⟨h1, _⟩ | ⟨_, hri, hi4, hs⟩
    · exact absurd h1 hn
    · have r3 := reg_split hri
      obtain ⟨q1, q2, q3⟩ := pow_scale hs
      refine ⟨rmI (modI mb md) mid 4, sibI ms (loR mi) mb :: (littleL md (lenI mb md) ++ r), ?_, ?_, ?_, ?_⟩
      · unfold placeL; rw [if_pos hn]; rfl
      · unfold rmI; omega
      · unfold rmI; omega
      · intro op
        have hmid : midD (rexI mid mi mb) (rmI (modI mb md) mid 4) = mid := by unfold midD rmI; rw [p1]; omega
        have hsib : sibD (rexI mid mi mb) (rmI (modI mb md) mid 4) (sibI ms (loR mi) mb :: (littleL md (lenI mb md) ++ r), b) = ((mb, mi, ms), littleL md (lenI mb md) ++ r, b) := by
          unfold sibD
          rw [if_pos (by unfold rmI; omega), nx_cons]
          have hx : idxD (rexI mid mi mb) (sibI ms (loR mi) mb) = mi := by unfold idxD sibI; rw [p2]; omega
          have hlast : lastD (rexI mid mi mb) (sibI ms (loR mi) mb) = mb := by unfold lastD sibI; rw [p3]; omega
          have hsc : sibI ms (loR mi) mb / 64 = scaleI ms := by unfold sibI; omega
          rw [hx, hlast, hsc, if_neg hi4, if_neg hi4, q1]
        unfold movD
        rw [hsib, hmid, disp_dec mb md _ (8 * loR mid + 4) r b (by omega) (by unfold rmI; omega) hd]
end Go.Proofs.Ytbcaelhchmoigaa
namespace Go.Proofs.Ytbcaelhchmoigaa
theorem both_64 (a b : Int) : bothI a b / 64 = 3 := by have := bothI_b a b; omega
theorem dec_pair (op c d s : Int) (r : List Int) (hp : pairOp c = op) (ho : op ≠ 0) (hd : Reg d) (hs : Reg s) :
    anyD ([rexI s 0 d, c, bothI s d] ++ r) false = (⟨op, d, s, 0, 0, 0, 0, 0, 0⟩, r, false) := by
  show anyD (rexI s 0 d :: c :: bothI s d :: r) false = _
  rw [anyD_rex _ _ _ (rexI_b s 0 d)]
  show wideB (rexI s 0 d) c (bothI s d :: r, false) = _
  obtain ⟨e1, e2⟩ := mid_both s 0 d hs hd (.inl hiR_z)
  unfold wideB
  rw [if_pos (show pairOp c ≠ 0 by rw [hp]; exact ho), hp, nx_cons]
  unfold pairB
  rw [e1, e2]
theorem dec_mov (d s : Int) (r : List Int) (hd : Reg d) (hs : Reg s) :
    anyD ([rexI s 0 d, 137, bothI s d] ++ r) false = (⟨1, d, s, 0, 0, 0, 0, 0, 0⟩, r, false) := by
  show anyD (rexI s 0 d :: 137 :: bothI s d :: r) false = _
  rw [anyD_rex _ _ _ (rexI_b s 0 d)]
  show wideB (rexI s 0 d) 137 (bothI s d :: r, false) = _
  obtain ⟨e1, e2⟩ := mid_both s 0 d hs hd (.inl hiR_z)
  unfold wideB
  rw [if_neg (by decide), if_neg (by decide), if_neg (by decide), if_pos rfl, nx_cons]
  unfold storeB pairB
  rw [if_pos (both_64 s d), e1, e2]
theorem dec_wide (d imm : Int) (r : List Int) (hd : Reg d) (hn : -9223372036854775808 ≤ imm ∧ imm ≤ 9223372036854775807) :
    anyD ([rexI 0 0 d, 184 + loR d] ++ littleL imm 8 ++ r) false = (⟨2, d, 0, 0, 0, 0, 0, 0, imm⟩, r, false) := by
  show anyD (rexI 0 0 d :: (184 + loR d) :: (littleL imm 8 ++ r)) false = _
  rw [anyD_rex _ _ _ (rexI_b 0 0 d)]
  have l := loR_b d
  have rs := reg_split hd
  obtain ⟨p1, p2, p3⟩ := rex_parts 0 0 d
  have hp : pairOp (184 + loR d) = 0 := by unfold pairOp; repeat rw [if_neg (by omega)]
  show wideB (rexI 0 0 d) (184 + loR d) (littleL imm 8 ++ r, false) = _
  unfold wideB
  rw [if_neg (show ¬ pairOp (184 + loR d) ≠ 0 by rw [hp]; decide), if_neg (by omega), if_neg (by omega), if_neg (by omega), if_pos (by omega)]
  unfold immB
  rw [num8 _ _ _ hn]
  have hl : lastD (rexI 0 0 d) (184 + loR d) = d := by unfold lastD; rw [p3]; omega
  rw [hl]
theorem dec_load (op c d mb mi ms md : Int) (r : List Int) (hc : c = 139 ∧ op = 3 ∨ c = 141 ∧ op = 5) (hd : Reg d) (hp : plc mb mi ms md = true) :
    anyD ([rexI d mi mb, c] ++ placeL d mb mi ms md ++ r) false = (⟨op, d, 0, 0, mb, mi, ms, md, 0⟩, r, false) := by
  obtain ⟨rm, l, e, h0, h1, h2⟩ := place_dec d mb mi ms md hd hp r false
  show anyD (rexI d mi mb :: c :: (placeL d mb mi ms md ++ r)) false = _
  rw [anyD_rex _ _ _ (rexI_b d mi mb), e]
  show wideB (rexI d mi mb) c (rm :: l, false) = _
  unfold wideB
  rcases hc with ⟨rfl, rfl⟩ | ⟨rfl, rfl⟩
  · rw [if_neg (by decide), if_pos rfl, nx_cons, h2]; rfl
  · rw [if_neg (by decide), if_neg (by decide), if_pos rfl, nx_cons, h2]; rfl
theorem dec_store (s mb mi ms md : Int) (r : List Int) (hs : Reg s) (hp : plc mb mi ms md = true) :
    anyD ([rexI s mi mb, 137] ++ placeL s mb mi ms md ++ r) false = (⟨4, 0, s, 0, mb, mi, ms, md, 0⟩, r, false) := by
  obtain ⟨rm, l, e, h0, h1, h2⟩ := place_dec s mb mi ms md hs hp r false
  show anyD (rexI s mi mb :: 137 :: (placeL s mb mi ms md ++ r)) false = _
  rw [anyD_rex _ _ _ (rexI_b s mi mb), e]
  show wideB (rexI s mi mb) 137 (rm :: l, false) = _
  unfold wideB
  rw [if_neg (by decide), if_neg (by decide), if_neg (by decide), if_pos rfl, nx_cons]
  unfold storeB
  rw [if_neg (by omega), h2]; rfl
theorem dec_move (op m d s : Int) (r : List Int) (hc : m = 66 ∧ op = 26 ∨ m = 69 ∧ op = 27) (hd : Reg d) (hs : Reg s) :
    anyD ([rexI d 0 s, 15, m, bothI d s] ++ r) false = (⟨op, d, s, 0, 0, 0, 0, 0, 0⟩, r, false) := by
  show anyD (rexI d 0 s :: 15 :: m :: bothI d s :: r) false = _
  rw [anyD_rex _ _ _ (rexI_b d 0 s)]
  show wideB (rexI d 0 s) 15 (m :: bothI d s :: r, false) = _
  obtain ⟨e1, e2⟩ := mid_both d 0 s hd hs (.inl hiR_z)
  unfold wideB
  rw [if_neg (by decide), if_neg (by decide), if_neg (by decide), if_neg (by decide), if_neg (by decide), if_pos rfl, nx_cons, nx_cons]
  unfold cmovB
  rw [e1, e2]
  rcases hc with ⟨rfl, rfl⟩ | ⟨rfl, rfl⟩ <;> rfl
theorem both_mid (m d : Int) (h : 0 ≤ m ∧ m ≤ 7) (hd : Reg d) : bothI m d / 8 % 8 = m ∧ lastD (rexI 0 0 d) (bothI m d) = d := by
  have l := loR_b d
  have rs := reg_split hd
  obtain ⟨p1, p2, p3⟩ := rex_parts 0 0 d
  have lm : loR m = m := by unfold loR; omega
  unfold lastD
  rw [p3]
  unfold bothI
  rw [lm]
  omega
theorem dec_grp0 (op c m d : Int) (r : List Int) (h1 : pairOp c = 0) (h2 : c = 247) (hg : grpOp c m = (op, 0)) (hm : 0 ≤ m ∧ m ≤ 7) (hd : Reg d) :
    anyD ([rexI 0 0 d, c, bothI m d] ++ r) false = (⟨op, d, 0, 0, 0, 0, 0, 0, 0⟩, r, false) := by
  show anyD (rexI 0 0 d :: c :: bothI m d :: r) false = _
  rw [anyD_rex _ _ _ (rexI_b 0 0 d)]
  show wideB (rexI 0 0 d) c (bothI m d :: r, false) = _
  obtain ⟨e1, e2⟩ := both_mid m d hm hd
  unfold wideB
  rw [if_neg (show ¬ pairOp c ≠ 0 by rw [h1]; decide), if_neg (by omega), if_neg (by omega), if_neg (by omega), if_neg (by omega), if_neg (by omega), nx_cons, e1, hg]
  unfold grpC
  rw [if_pos rfl, e2]
theorem dec_grp4 (op m d imm : Int) (r : List Int) (hg : grpOp 129 m = (op, 4)) (hm : 0 ≤ m ∧ m ≤ 7) (hd : Reg d) (hn : -2147483648 ≤ imm ∧ imm ≤ 2147483647) :
    anyD ([rexI 0 0 d, 129, bothI m d] ++ littleL imm 4 ++ r) false = (⟨op, d, 0, 0, 0, 0, 0, 0, imm⟩, r, false) := by
  show anyD (rexI 0 0 d :: 129 :: bothI m d :: (littleL imm 4 ++ r)) false = _
  rw [anyD_rex _ _ _ (rexI_b 0 0 d)]
  show wideB (rexI 0 0 d) 129 (bothI m d :: (littleL imm 4 ++ r), false) = _
  obtain ⟨e1, e2⟩ := both_mid m d hm hd
  unfold wideB
  rw [if_neg (by decide), if_neg (by decide), if_neg (by decide), if_neg (by decide), if_neg (by decide), if_neg (by decide), nx_cons, e1, hg]
  unfold grpC
  rw [if_neg (by simp), e2]
  simp only [num4 _ _ _ hn]
theorem dec_grp1 (op m d imm : Int) (r : List Int) (hg : grpOp 193 m = (op, 1)) (hm : 0 ≤ m ∧ m ≤ 7) (hd : Reg d) (hn : 1 ≤ imm ∧ imm ≤ 63) :
    anyD ([rexI 0 0 d, 193, bothI m d] ++ [imm] ++ r) false = (⟨op, d, 0, 0, 0, 0, 0, 0, imm⟩, r, false) := by
  show anyD (rexI 0 0 d :: 193 :: bothI m d :: imm :: r) false = _
  rw [anyD_rex _ _ _ (rexI_b 0 0 d)]
  show wideB (rexI 0 0 d) 193 (bothI m d :: imm :: r, false) = _
  obtain ⟨e1, e2⟩ := both_mid m d hm hd
  unfold wideB
  rw [if_neg (by decide), if_neg (by decide), if_neg (by decide), if_neg (by decide), if_neg (by decide), if_neg (by decide), nx_cons, e1, hg]
  unfold grpC
  rw [if_neg (by simp), e2]
  simp only [num1u _ _ _ hn]
theorem dec_chain (op c d s : Int) (r : List Int) (hc : c = 102 ∧ op = 20 ∨ c = 243 ∧ op = 21) (hd : Reg d) (hs : Reg s) :
    anyD ([c, rexI d 0 s, 15, 56, 246, bothI d s] ++ r) false = (⟨op, d, s, 0, 0, 0, 0, 0, 0⟩, r, false) := by
  obtain ⟨e1, e2⟩ := mid_both d 0 s hd hs (.inl hiR_z)
  show anyD (c :: rexI d 0 s :: 15 :: 56 :: 246 :: bothI d s :: r) false = _
  rcases hc with ⟨rfl, rfl⟩ | ⟨rfl, rfl⟩
  · rw [anyD, if_neg (by decide), if_neg (by decide), if_neg (by decide), if_neg (by decide), if_neg (by decide), if_neg (by decide), if_neg (by decide), if_pos rfl]
    simp only [chainD, nx_cons]; rw [e1, e2]
  · rw [anyD, if_neg (by decide), if_neg (by decide), if_neg (by decide), if_neg (by decide), if_neg (by decide), if_neg (by decide), if_neg (by decide), if_neg (by decide), if_pos rfl]
    simp only [chainD, nx_cons]; rw [e1, e2]
theorem dec_mulx (d s t : Int) (r : List Int) (hd : Reg d) (hs : Reg s) (ht : Reg t) :
    anyD ([196, mulx1 d t, mulx2 s, 246, bothI d t] ++ r) false = (⟨19, d, s, t, 0, 0, 0, 0, 0⟩, r, false) := by
  have l1 := loR_b d; have l2 := loR_b t
  have h1 := hiR_b d; have h2 := hiR_b t
  have r1 := reg_split hd; have r2 := reg_split ht
  unfold Reg at hs
  show anyD (196 :: mulx1 d t :: mulx2 s :: 246 :: bothI d t :: r) false = _
  rw [anyD, if_neg (by decide), if_neg (by decide), if_neg (by decide), if_neg (by decide), if_neg (by decide), if_neg (by decide), if_pos rfl]
  simp only [nx_cons, mulD]
  have a1 : mulx1 d t / 128 = 1 - hiR d := by unfold mulx1; omega
  have a2 : mulx1 d t / 32 % 2 = 1 - hiR t := by unfold mulx1; omega
  rw [a1, a2]
  have e1 : midD ((1 - (1 - hiR d)) * 4 + (1 - (1 - hiR t))) (bothI d t) = d := by unfold midD bothI; omega
  have e2 : lastD ((1 - (1 - hiR d)) * 4 + (1 - (1 - hiR t))) (bothI d t) = t := by unfold lastD bothI; omega
  have e3 : 15 - mulx2 s / 8 % 16 = s := by unfold mulx2; omega
  rw [e1, e2, e3]
theorem or8_lo (x : Int) (h : Reg x) (h1 : hiR x = 1) : or8 (loR x) = x := by
  have l := loR_b x
  have rs := reg_split h
  unfold or8; rw [if_pos (by omega)]; omega
theorem dec_push (s : Int) (r : List Int) (hs : Reg s) : anyD (stackL 80 s ++ r) false = (⟨28, 0, s, 0, 0, 0, 0, 0, 0⟩, r, false) := by
  have l := loR_b s
  have rs := reg_split hs
  have lo : ∀ k, anyD ((80 + loR s) :: r) k = (⟨28, 0, loR s, 0, 0, 0, 0, 0, 0⟩, r, k) := by
    intro k
    rw [anyD, if_neg (by omega), if_pos (by omega), show (80 + loR s) % 8 = loR s by omega]
  unfold stackL
  rcases hiR_01 s with h | h
  · rw [if_neg (by omega)]
    show anyD ((80 + loR s) :: r) false = _
    rw [lo, show loR s = s by omega]
  · rw [if_pos h]
    show anyD (65 :: (80 + loR s) :: r) false = _
    rw [anyD, if_neg (by decide), if_neg (by decide), if_neg (by decide), if_pos rfl, lo]
    simp only [up8]
    rw [if_pos trivial, or8_lo s hs h]
theorem dec_pop (d : Int) (r : List Int) (hd : Reg d) : anyD (stackL 88 d ++ r) false = (⟨29, d, 0, 0, 0, 0, 0, 0, 0⟩, r, false) := by
  have l := loR_b d
  have rs := reg_split hd
  have lo : ∀ k, anyD ((88 + loR d) :: r) k = (⟨29, loR d, 0, 0, 0, 0, 0, 0, 0⟩, r, k) := by
    intro k
    rw [anyD, if_neg (by omega), if_neg (by omega), if_pos (by omega), show (88 + loR d) % 8 = loR d by omega]
  unfold stackL
  rcases hiR_01 d with h | h
  · rw [if_neg (by omega)]
    show anyD ((88 + loR d) :: r) false = _
    rw [lo, show loR d = d by omega]
  · rw [if_pos h]
    show anyD (65 :: (88 + loR d) :: r) false = _
    rw [anyD, if_neg (by decide), if_neg (by decide), if_neg (by decide), if_pos rfl, lo]
    simp only [up8]
    rw [if_neg (by decide), or8_lo d hd h]
theorem dec_jmp (imm : Int) (r : List Int) (hn : -2147483648 ≤ imm ∧ imm ≤ 2147483647) : anyD (jumpL 233 0 imm ++ r) false = (⟨30, 0, 0, 0, 0, 0, 0, 0, imm⟩, r, false) := by
  show anyD (233 :: (littleL imm 4 ++ r)) false = _
  rw [anyD, if_neg (by decide), if_neg (by decide), if_neg (by decide), if_neg (by decide), if_pos rfl, num4 _ _ _ hn]
theorem dec_jcc (op m imm : Int) (r : List Int) (hc : m = 133 ∧ op = 31 ∨ m = 130 ∧ op = 32) (hn : -2147483648 ≤ imm ∧ imm ≤ 2147483647) : anyD (jumpL 15 m imm ++ r) false = (⟨op, 0, 0, 0, 0, 0, 0, 0, imm⟩, r, false) := by
  have e : jumpL 15 m imm ++ r = 15 :: m :: (littleL imm 4 ++ r) := by rcases hc with ⟨rfl, _⟩ | ⟨rfl, _⟩ <;> rfl
  rw [e, anyD, if_neg (by decide), if_neg (by decide), if_neg (by decide), if_neg (by decide), if_neg (by decide), if_pos rfl]
  simp only [nx_cons]
  rw [num4 _ _ _ hn]
  rcases hc with ⟨rfl, rfl⟩ | ⟨rfl, rfl⟩ <;> rfl
theorem dec_ret (r : List Int) : anyD ([195] ++ r) false = (⟨33, 0, 0, 0, 0, 0, 0, 0, 0⟩, r, false) := by
  show anyD (195 :: r) false = _
  rw [anyD, if_pos rfl]
theorem dec_1 (d s t mb mi ms md imm : Int) (r : List Int) (_hi : -9223372036854775808 ≤ imm ∧ imm ≤ 9223372036854775807) (h : chk 1 d s t mb mi ms md imm = true) : anyD (encL 1 d s t mb mi ms md imm ++ r) false = (⟨1, d, s, t, mb, mi, ms, md, imm⟩, r, false) := by
  rw [chk_1] at h
  obtain ⟨rfl, hd, hs, rfl, ⟨rfl, rfl, rfl, rfl⟩⟩ := h
  exact dec_mov d s r hd hs
theorem dec_2 (d s t mb mi ms md imm : Int) (r : List Int) (hi : -9223372036854775808 ≤ imm ∧ imm ≤ 9223372036854775807) (h : chk 2 d s t mb mi ms md imm = true) : anyD (encL 2 d s t mb mi ms md imm ++ r) false = (⟨2, d, s, t, mb, mi, ms, md, imm⟩, r, false) := by
  rw [chk_2] at h
  obtain ⟨_, hd, rfl, rfl, ⟨rfl, rfl, rfl, rfl⟩⟩ := h
  exact dec_wide d imm r hd hi
theorem dec_3 (d s t mb mi ms md imm : Int) (r : List Int) (_hi : -9223372036854775808 ≤ imm ∧ imm ≤ 9223372036854775807) (h : chk 3 d s t mb mi ms md imm = true) : anyD (encL 3 d s t mb mi ms md imm ++ r) false = (⟨3, d, s, t, mb, mi, ms, md, imm⟩, r, false) := by
  rw [chk_3] at h
  obtain ⟨rfl, hd, rfl, rfl, hp⟩ := h
  exact dec_load 3 139 d mb mi ms md r (by decide) hd hp
theorem dec_4 (d s t mb mi ms md imm : Int) (r : List Int) (_hi : -9223372036854775808 ≤ imm ∧ imm ≤ 9223372036854775807) (h : chk 4 d s t mb mi ms md imm = true) : anyD (encL 4 d s t mb mi ms md imm ++ r) false = (⟨4, d, s, t, mb, mi, ms, md, imm⟩, r, false) := by
  rw [chk_4] at h
  obtain ⟨rfl, rfl, hs, rfl, hp⟩ := h
  exact dec_store s mb mi ms md r hs hp
theorem dec_5 (d s t mb mi ms md imm : Int) (r : List Int) (_hi : -9223372036854775808 ≤ imm ∧ imm ≤ 9223372036854775807) (h : chk 5 d s t mb mi ms md imm = true) : anyD (encL 5 d s t mb mi ms md imm ++ r) false = (⟨5, d, s, t, mb, mi, ms, md, imm⟩, r, false) := by
  rw [chk_5] at h
  obtain ⟨rfl, hd, rfl, rfl, hp⟩ := h
  exact dec_load 5 141 d mb mi ms md r (by decide) hd hp
theorem dec_6 (d s t mb mi ms md imm : Int) (r : List Int) (_hi : -9223372036854775808 ≤ imm ∧ imm ≤ 9223372036854775807) (h : chk 6 d s t mb mi ms md imm = true) : anyD (encL 6 d s t mb mi ms md imm ++ r) false = (⟨6, d, s, t, mb, mi, ms, md, imm⟩, r, false) := by
  rw [chk_6] at h
  obtain ⟨rfl, hd, hs, rfl, ⟨rfl, rfl, rfl, rfl⟩⟩ := h
  exact dec_pair 6 1 d s r rfl (by decide) hd hs
theorem dec_7 (d s t mb mi ms md imm : Int) (r : List Int) (_hi : -9223372036854775808 ≤ imm ∧ imm ≤ 9223372036854775807) (h : chk 7 d s t mb mi ms md imm = true) : anyD (encL 7 d s t mb mi ms md imm ++ r) false = (⟨7, d, s, t, mb, mi, ms, md, imm⟩, r, false) := by
  rw [chk_7] at h
  obtain ⟨rfl, hd, hs, rfl, ⟨rfl, rfl, rfl, rfl⟩⟩ := h
  exact dec_pair 7 17 d s r rfl (by decide) hd hs
theorem dec_8 (d s t mb mi ms md imm : Int) (r : List Int) (_hi : -9223372036854775808 ≤ imm ∧ imm ≤ 9223372036854775807) (h : chk 8 d s t mb mi ms md imm = true) : anyD (encL 8 d s t mb mi ms md imm ++ r) false = (⟨8, d, s, t, mb, mi, ms, md, imm⟩, r, false) := by
  rw [chk_8] at h
  obtain ⟨rfl, hd, hs, rfl, ⟨rfl, rfl, rfl, rfl⟩⟩ := h
  exact dec_pair 8 41 d s r rfl (by decide) hd hs
theorem dec_9 (d s t mb mi ms md imm : Int) (r : List Int) (_hi : -9223372036854775808 ≤ imm ∧ imm ≤ 9223372036854775807) (h : chk 9 d s t mb mi ms md imm = true) : anyD (encL 9 d s t mb mi ms md imm ++ r) false = (⟨9, d, s, t, mb, mi, ms, md, imm⟩, r, false) := by
  rw [chk_9] at h
  obtain ⟨rfl, hd, hs, rfl, ⟨rfl, rfl, rfl, rfl⟩⟩ := h
  exact dec_pair 9 25 d s r rfl (by decide) hd hs
theorem dec_10 (d s t mb mi ms md imm : Int) (r : List Int) (_hi : -9223372036854775808 ≤ imm ∧ imm ≤ 9223372036854775807) (h : chk 10 d s t mb mi ms md imm = true) : anyD (encL 10 d s t mb mi ms md imm ++ r) false = (⟨10, d, s, t, mb, mi, ms, md, imm⟩, r, false) := by
  rw [chk_10] at h
  obtain ⟨rfl, hd, hs, rfl, ⟨rfl, rfl, rfl, rfl⟩⟩ := h
  exact dec_pair 10 33 d s r rfl (by decide) hd hs
theorem dec_11 (d s t mb mi ms md imm : Int) (r : List Int) (_hi : -9223372036854775808 ≤ imm ∧ imm ≤ 9223372036854775807) (h : chk 11 d s t mb mi ms md imm = true) : anyD (encL 11 d s t mb mi ms md imm ++ r) false = (⟨11, d, s, t, mb, mi, ms, md, imm⟩, r, false) := by
  rw [chk_11] at h
  obtain ⟨rfl, hd, hs, rfl, ⟨rfl, rfl, rfl, rfl⟩⟩ := h
  exact dec_pair 11 9 d s r rfl (by decide) hd hs
theorem dec_12 (d s t mb mi ms md imm : Int) (r : List Int) (_hi : -9223372036854775808 ≤ imm ∧ imm ≤ 9223372036854775807) (h : chk 12 d s t mb mi ms md imm = true) : anyD (encL 12 d s t mb mi ms md imm ++ r) false = (⟨12, d, s, t, mb, mi, ms, md, imm⟩, r, false) := by
  rw [chk_12] at h
  obtain ⟨rfl, hd, hs, rfl, ⟨rfl, rfl, rfl, rfl⟩⟩ := h
  exact dec_pair 12 49 d s r rfl (by decide) hd hs
theorem dec_13 (d s t mb mi ms md imm : Int) (r : List Int) (_hi : -9223372036854775808 ≤ imm ∧ imm ≤ 9223372036854775807) (h : chk 13 d s t mb mi ms md imm = true) : anyD (encL 13 d s t mb mi ms md imm ++ r) false = (⟨13, d, s, t, mb, mi, ms, md, imm⟩, r, false) := by
  rw [chk_13] at h
  obtain ⟨rfl, hd, hs, rfl, ⟨rfl, rfl, rfl, rfl⟩⟩ := h
  exact dec_pair 13 57 d s r rfl (by decide) hd hs
theorem dec_14 (d s t mb mi ms md imm : Int) (r : List Int) (_hi : -9223372036854775808 ≤ imm ∧ imm ≤ 9223372036854775807) (h : chk 14 d s t mb mi ms md imm = true) : anyD (encL 14 d s t mb mi ms md imm ++ r) false = (⟨14, d, s, t, mb, mi, ms, md, imm⟩, r, false) := by
  rw [chk_14] at h
  obtain ⟨rfl, hd, hs, rfl, ⟨rfl, rfl, rfl, rfl⟩⟩ := h
  exact dec_pair 14 133 d s r rfl (by decide) hd hs
theorem dec_15 (d s t mb mi ms md imm : Int) (r : List Int) (_hi : -9223372036854775808 ≤ imm ∧ imm ≤ 9223372036854775807) (h : chk 15 d s t mb mi ms md imm = true) : anyD (encL 15 d s t mb mi ms md imm ++ r) false = (⟨15, d, s, t, mb, mi, ms, md, imm⟩, r, false) := by
  rw [chk_15] at h
  obtain ⟨hi, hd, rfl, rfl, ⟨rfl, rfl, rfl, rfl⟩⟩ := h
  exact dec_grp4 15 0 d imm r rfl (by decide) hd hi
theorem dec_16 (d s t mb mi ms md imm : Int) (r : List Int) (_hi : -9223372036854775808 ≤ imm ∧ imm ≤ 9223372036854775807) (h : chk 16 d s t mb mi ms md imm = true) : anyD (encL 16 d s t mb mi ms md imm ++ r) false = (⟨16, d, s, t, mb, mi, ms, md, imm⟩, r, false) := by
  rw [chk_16] at h
  obtain ⟨hi, hd, rfl, rfl, ⟨rfl, rfl, rfl, rfl⟩⟩ := h
  exact dec_grp4 16 4 d imm r rfl (by decide) hd hi
theorem dec_17 (d s t mb mi ms md imm : Int) (r : List Int) (_hi : -9223372036854775808 ≤ imm ∧ imm ≤ 9223372036854775807) (h : chk 17 d s t mb mi ms md imm = true) : anyD (encL 17 d s t mb mi ms md imm ++ r) false = (⟨17, d, s, t, mb, mi, ms, md, imm⟩, r, false) := by
  rw [chk_17] at h
  obtain ⟨hi, hd, rfl, rfl, ⟨rfl, rfl, rfl, rfl⟩⟩ := h
  exact dec_grp4 17 5 d imm r rfl (by decide) hd hi
theorem dec_18 (d s t mb mi ms md imm : Int) (r : List Int) (_hi : -9223372036854775808 ≤ imm ∧ imm ≤ 9223372036854775807) (h : chk 18 d s t mb mi ms md imm = true) : anyD (encL 18 d s t mb mi ms md imm ++ r) false = (⟨18, d, s, t, mb, mi, ms, md, imm⟩, r, false) := by
  rw [chk_18] at h
  obtain ⟨hi, hd, rfl, rfl, ⟨rfl, rfl, rfl, rfl⟩⟩ := h
  exact dec_grp4 18 7 d imm r rfl (by decide) hd hi
theorem dec_19 (d s t mb mi ms md imm : Int) (r : List Int) (_hi : -9223372036854775808 ≤ imm ∧ imm ≤ 9223372036854775807) (h : chk 19 d s t mb mi ms md imm = true) : anyD (encL 19 d s t mb mi ms md imm ++ r) false = (⟨19, d, s, t, mb, mi, ms, md, imm⟩, r, false) := by
  rw [chk_19] at h
  obtain ⟨rfl, hd, hs, ht, ⟨rfl, rfl, rfl, rfl⟩, _⟩ := h
  exact dec_mulx d s t r hd hs ht
theorem dec_20 (d s t mb mi ms md imm : Int) (r : List Int) (_hi : -9223372036854775808 ≤ imm ∧ imm ≤ 9223372036854775807) (h : chk 20 d s t mb mi ms md imm = true) : anyD (encL 20 d s t mb mi ms md imm ++ r) false = (⟨20, d, s, t, mb, mi, ms, md, imm⟩, r, false) := by
  rw [chk_20] at h
  obtain ⟨rfl, hd, hs, rfl, ⟨rfl, rfl, rfl, rfl⟩⟩ := h
  exact dec_chain 20 102 d s r (by decide) hd hs
theorem dec_21 (d s t mb mi ms md imm : Int) (r : List Int) (_hi : -9223372036854775808 ≤ imm ∧ imm ≤ 9223372036854775807) (h : chk 21 d s t mb mi ms md imm = true) : anyD (encL 21 d s t mb mi ms md imm ++ r) false = (⟨21, d, s, t, mb, mi, ms, md, imm⟩, r, false) := by
  rw [chk_21] at h
  obtain ⟨rfl, hd, hs, rfl, ⟨rfl, rfl, rfl, rfl⟩⟩ := h
  exact dec_chain 21 243 d s r (by decide) hd hs
theorem dec_22 (d s t mb mi ms md imm : Int) (r : List Int) (_hi : -9223372036854775808 ≤ imm ∧ imm ≤ 9223372036854775807) (h : chk 22 d s t mb mi ms md imm = true) : anyD (encL 22 d s t mb mi ms md imm ++ r) false = (⟨22, d, s, t, mb, mi, ms, md, imm⟩, r, false) := by
  rw [chk_22] at h
  obtain ⟨rfl, hd, rfl, rfl, ⟨rfl, rfl, rfl, rfl⟩⟩ := h
  exact dec_grp0 22 247 3 d r rfl rfl rfl (by decide) hd
theorem dec_23 (d s t mb mi ms md imm : Int) (r : List Int) (_hi : -9223372036854775808 ≤ imm ∧ imm ≤ 9223372036854775807) (h : chk 23 d s t mb mi ms md imm = true) : anyD (encL 23 d s t mb mi ms md imm ++ r) false = (⟨23, d, s, t, mb, mi, ms, md, imm⟩, r, false) := by
  rw [chk_23] at h
  obtain ⟨rfl, hd, rfl, rfl, ⟨rfl, rfl, rfl, rfl⟩⟩ := h
  exact dec_grp0 23 247 2 d r rfl rfl rfl (by decide) hd
theorem dec_24 (d s t mb mi ms md imm : Int) (r : List Int) (_hi : -9223372036854775808 ≤ imm ∧ imm ≤ 9223372036854775807) (h : chk 24 d s t mb mi ms md imm = true) : anyD (encL 24 d s t mb mi ms md imm ++ r) false = (⟨24, d, s, t, mb, mi, ms, md, imm⟩, r, false) := by
  rw [chk_24] at h
  obtain ⟨hi, hd, rfl, rfl, ⟨rfl, rfl, rfl, rfl⟩⟩ := h
  exact dec_grp1 24 4 d imm r rfl (by decide) hd hi
theorem dec_25 (d s t mb mi ms md imm : Int) (r : List Int) (_hi : -9223372036854775808 ≤ imm ∧ imm ≤ 9223372036854775807) (h : chk 25 d s t mb mi ms md imm = true) : anyD (encL 25 d s t mb mi ms md imm ++ r) false = (⟨25, d, s, t, mb, mi, ms, md, imm⟩, r, false) := by
  rw [chk_25] at h
  obtain ⟨hi, hd, rfl, rfl, ⟨rfl, rfl, rfl, rfl⟩⟩ := h
  exact dec_grp1 25 5 d imm r rfl (by decide) hd hi
theorem dec_26 (d s t mb mi ms md imm : Int) (r : List Int) (_hi : -9223372036854775808 ≤ imm ∧ imm ≤ 9223372036854775807) (h : chk 26 d s t mb mi ms md imm = true) : anyD (encL 26 d s t mb mi ms md imm ++ r) false = (⟨26, d, s, t, mb, mi, ms, md, imm⟩, r, false) := by
  rw [chk_26] at h
  obtain ⟨rfl, hd, hs, rfl, ⟨rfl, rfl, rfl, rfl⟩⟩ := h
  exact dec_move 26 66 d s r (by decide) hd hs
theorem dec_27 (d s t mb mi ms md imm : Int) (r : List Int) (_hi : -9223372036854775808 ≤ imm ∧ imm ≤ 9223372036854775807) (h : chk 27 d s t mb mi ms md imm = true) : anyD (encL 27 d s t mb mi ms md imm ++ r) false = (⟨27, d, s, t, mb, mi, ms, md, imm⟩, r, false) := by
  rw [chk_27] at h
  obtain ⟨rfl, hd, hs, rfl, ⟨rfl, rfl, rfl, rfl⟩⟩ := h
  exact dec_move 27 69 d s r (by decide) hd hs
theorem dec_28 (d s t mb mi ms md imm : Int) (r : List Int) (_hi : -9223372036854775808 ≤ imm ∧ imm ≤ 9223372036854775807) (h : chk 28 d s t mb mi ms md imm = true) : anyD (encL 28 d s t mb mi ms md imm ++ r) false = (⟨28, d, s, t, mb, mi, ms, md, imm⟩, r, false) := by
  rw [chk_28] at h
  obtain ⟨rfl, rfl, hs, rfl, ⟨rfl, rfl, rfl, rfl⟩⟩ := h
  exact dec_push s r hs
theorem dec_29 (d s t mb mi ms md imm : Int) (r : List Int) (_hi : -9223372036854775808 ≤ imm ∧ imm ≤ 9223372036854775807) (h : chk 29 d s t mb mi ms md imm = true) : anyD (encL 29 d s t mb mi ms md imm ++ r) false = (⟨29, d, s, t, mb, mi, ms, md, imm⟩, r, false) := by
  rw [chk_29] at h
  obtain ⟨rfl, hd, rfl, rfl, ⟨rfl, rfl, rfl, rfl⟩⟩ := h
  exact dec_pop d r hd
theorem dec_30 (d s t mb mi ms md imm : Int) (r : List Int) (_hi : -9223372036854775808 ≤ imm ∧ imm ≤ 9223372036854775807) (h : chk 30 d s t mb mi ms md imm = true) : anyD (encL 30 d s t mb mi ms md imm ++ r) false = (⟨30, d, s, t, mb, mi, ms, md, imm⟩, r, false) := by
  rw [chk_30] at h
  obtain ⟨hi, rfl, rfl, rfl, ⟨rfl, rfl, rfl, rfl⟩⟩ := h
  exact dec_jmp imm r hi
theorem dec_31 (d s t mb mi ms md imm : Int) (r : List Int) (_hi : -9223372036854775808 ≤ imm ∧ imm ≤ 9223372036854775807) (h : chk 31 d s t mb mi ms md imm = true) : anyD (encL 31 d s t mb mi ms md imm ++ r) false = (⟨31, d, s, t, mb, mi, ms, md, imm⟩, r, false) := by
  rw [chk_31] at h
  obtain ⟨hi, rfl, rfl, rfl, ⟨rfl, rfl, rfl, rfl⟩⟩ := h
  exact dec_jcc 31 133 imm r (by decide) hi
theorem dec_32 (d s t mb mi ms md imm : Int) (r : List Int) (_hi : -9223372036854775808 ≤ imm ∧ imm ≤ 9223372036854775807) (h : chk 32 d s t mb mi ms md imm = true) : anyD (encL 32 d s t mb mi ms md imm ++ r) false = (⟨32, d, s, t, mb, mi, ms, md, imm⟩, r, false) := by
  rw [chk_32] at h
  obtain ⟨hi, rfl, rfl, rfl, ⟨rfl, rfl, rfl, rfl⟩⟩ := h
  exact dec_jcc 32 130 imm r (by decide) hi
theorem dec_33 (d s t mb mi ms md imm : Int) (r : List Int) (_hi : -9223372036854775808 ≤ imm ∧ imm ≤ 9223372036854775807) (h : chk 33 d s t mb mi ms md imm = true) : anyD (encL 33 d s t mb mi ms md imm ++ r) false = (⟨33, d, s, t, mb, mi, ms, md, imm⟩, r, false) := by
  rw [chk_33] at h
  obtain ⟨rfl, rfl, rfl, rfl, ⟨rfl, rfl, rfl, rfl⟩⟩ := h
  exact dec_ret r
theorem dec_any (x : Ins) (r : List Int) (h : x.chk = true) (hi : -9223372036854775808 ≤ x.imm ∧ x.imm ≤ 9223372036854775807) : anyD (x.enc ++ r) false = (x, r, false) := by
  obtain ⟨op, d, s, t, mb, mi, ms, md, imm⟩ := x
  have hr : 1 ≤ op ∧ op ≤ 33 := chk_range h
  have : op = 1 ∨ op = 2 ∨ op = 3 ∨ op = 4 ∨ op = 5 ∨ op = 6 ∨ op = 7 ∨ op = 8 ∨ op = 9 ∨ op = 10 ∨ op = 11 ∨ op = 12 ∨ op = 13 ∨ op = 14 ∨ op = 15 ∨ op = 16 ∨ op = 17 ∨ op = 18 ∨ op = 19 ∨ op = 20 ∨ op = 21 ∨ op = 22 ∨ op = 23 ∨ op = 24 ∨ op = 25 ∨ op = 26 ∨ op = 27 ∨ op = 28 ∨ op = 29 ∨ op = 30 ∨ op = 31 ∨ op = 32 ∨ op = 33 := by omega
  rcases this with rfl | rfl | rfl | rfl | rfl | rfl | rfl | rfl | rfl | rfl | rfl | rfl | rfl | rfl | rfl | rfl | rfl | rfl | rfl | rfl | rfl | rfl | rfl | rfl | rfl | rfl | rfl | rfl | rfl | rfl | rfl | rfl | rfl
  · exact dec_1 d s t mb mi ms md imm r hi h
  · exact dec_2 d s t mb mi ms md imm r hi h
  · exact dec_3 d s t mb mi ms md imm r hi h
  · exact dec_4 d s t mb mi ms md imm r hi h
  · exact dec_5 d s t mb mi ms md imm r hi h
  · exact dec_6 d s t mb mi ms md imm r hi h
  · exact dec_7 d s t mb mi ms md imm r hi h
  · exact dec_8 d s t mb mi ms md imm r hi h
  · exact dec_9 d s t mb mi ms md imm r hi h
  · exact dec_10 d s t mb mi ms md imm r hi h
  · exact dec_11 d s t mb mi ms md imm r hi h
  · exact dec_12 d s t mb mi ms md imm r hi h
  · exact dec_13 d s t mb mi ms md imm r hi h
  · exact dec_14 d s t mb mi ms md imm r hi h
  · exact dec_15 d s t mb mi ms md imm r hi h
  · exact dec_16 d s t mb mi ms md imm r hi h
  · exact dec_17 d s t mb mi ms md imm r hi h
  · exact dec_18 d s t mb mi ms md imm r hi h
  · exact dec_19 d s t mb mi ms md imm r hi h
  · exact dec_20 d s t mb mi ms md imm r hi h
  · exact dec_21 d s t mb mi ms md imm r hi h
  · exact dec_22 d s t mb mi ms md imm r hi h
  · exact dec_23 d s t mb mi ms md imm r hi h
  · exact dec_24 d s t mb mi ms md imm r hi h
  · exact dec_25 d s t mb mi ms md imm r hi h
  · exact dec_26 d s t mb mi ms md imm r hi h
  · exact dec_27 d s t mb mi ms md imm r hi h
  · exact dec_28 d s t mb mi ms md imm r hi h
  · exact dec_29 d s t mb mi ms md imm r hi h
  · exact dec_30 d s t mb mi ms md imm r hi h
  · exact dec_31 d s t mb mi ms md imm r hi h
  · exact dec_32 d s t mb mi ms md imm r hi h
  · exact dec_33 d s t mb mi ms md imm r hi h
end Go.Proofs.Ytbcaelhchmoigaa
namespace Go.Proofs.Ytbcaelhchmoigaa
open Go.RowKit Calm
theorem get_list (a : ByteArray) (k : Nat) (h : k < a.size) : a.data.toList[k]? = some a[k] := by
  rw [Array.getElem?_toList, Array.getElem?_eq_getElem h]; rfl
def At9 (w : World) (b : Nat) (op d s t mb mi ms md imm : Int) : Prop :=
  w.cell? ⟨b, 0, none⟩ = some (.int .i64 op) ∧ w.cell? ⟨b, 1, none⟩ = some (.int .i64 d) ∧ w.cell? ⟨b, 2, none⟩ = some (.int .i64 s) ∧ w.cell? ⟨b, 3, none⟩ = some (.int .i64 t) ∧ w.cell? ⟨b, 4, none⟩ = some (.int .i64 mb) ∧ w.cell? ⟨b, 5, none⟩ = some (.int .i64 mi) ∧ w.cell? ⟨b, 6, none⟩ = some (.int .i64 ms) ∧ w.cell? ⟨b, 7, none⟩ = some (.int .i64 md) ∧ w.cell? ⟨b, 8, none⟩ = some (.int .i64 imm)
end Go.Proofs.Ytbcaelhchmoigaa
