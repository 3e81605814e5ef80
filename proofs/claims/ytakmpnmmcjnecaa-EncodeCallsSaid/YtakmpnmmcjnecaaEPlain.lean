/- What encode.Inst puts: how long it is; its bytes are bytes. Plain laws, no program in sight. -/
import Derived.Test.YtakmpnmmcjnecaaLives
namespace Go.Proofs.Ytakmpnmmcjnecaa
open Go.RowKit Calm

/-- An instruction's numbers. -/
structure Ins where
  op : Int
  d : Int
  s : Int
  t : Int
  mb : Int
  mi : Int
  ms : Int
  md : Int
  imm : Int
def Ins.vs (x : Ins) : List Value := [.int .i64 x.op, .int .i64 x.d, .int .i64 x.s, .int .i64 x.t, .int .i64 x.mb, .int .i64 x.mi, .int .i64 x.ms, .int .i64 x.md, .int .i64 x.imm]
def Ins.chk (x : Ins) : Bool := Go.Proofs.Ytakmpnmmcjnecaa.chk x.op x.d x.s x.t x.mb x.mi x.ms x.md x.imm
def Ins.enc (x : Ins) : List Int := encL x.op x.d x.s x.t x.mb x.mi x.ms x.md x.imm
def Ins.out (x : Ins) : ByteArray := outE x.op x.d x.s x.t x.mb x.mi x.ms x.md x.imm

def Bytes (l : List Int) : Prop := ∀ b ∈ l, 0 ≤ b ∧ b ≤ 255
theorem Bytes.nil : Bytes [] := fun _ h => by simp at h
theorem Bytes.cons {b : Int} {l : List Int} (h : 0 ≤ b ∧ b ≤ 255) (hl : Bytes l) : Bytes (b :: l) := by
  intro x hx
  rcases List.mem_cons.1 hx with rfl | hx
  · exact h
  · exact hl x hx
theorem Bytes.append {a b : List Int} (ha : Bytes a) (hb : Bytes b) : Bytes (a ++ b) := by
  intro x hx
  rcases List.mem_append.1 hx with h | h
  · exact ha x h
  · exact hb x h
theorem Bytes.little (n : Int) (k : Nat) : Bytes (littleL n k) := by
  induction k generalizing n with
  | zero => exact Bytes.nil
  | succ k ih => unfold littleL; exact Bytes.cons (by omega) (ih _)
theorem loR_b (r : Int) : 0 ≤ loR r ∧ loR r ≤ 7 := by unfold loR; omega
theorem hiR_b (r : Int) : 0 ≤ hiR r ∧ hiR r ≤ 1 := by unfold hiR; split <;> omega
theorem rexI_b (a b c : Int) : 72 ≤ rexI a b c ∧ rexI a b c ≤ 79 := by
  have := hiR_b a; have := hiR_b b; have := hiR_b c
  unfold rexI; omega
theorem bothI_b (a b : Int) : 192 ≤ bothI a b ∧ bothI a b ≤ 255 := by
  have := loR_b a; have := loR_b b
  unfold bothI; omega
theorem placeL_b (mid mb mi ms md : Int) : Bytes (placeL mid mb mi ms md) := by
  have h1 := loR_b mid; have h2 := loR_b mb; have h3 := loR_b mi
  have h4 : 0 ≤ modI mb md ∧ modI mb md ≤ 2 := by unfold modI; split <;> (try split) <;> omega
  have h5 : 0 ≤ scaleI ms ∧ scaleI ms ≤ 3 := by unfold scaleI; split <;> (try split) <;> (try split) <;> omega
  unfold placeL
  repeat' split
  all_goals (try unfold rmI); all_goals (try unfold sibI)
  all_goals first | exact Bytes.cons (by omega) (Bytes.little _ _) | exact Bytes.cons (by omega) (Bytes.cons (by omega) (Bytes.little _ _))
theorem stackL_b {c r : Int} (h : 0 ≤ c ∧ c ≤ 200) : Bytes (stackL c r) ∧ 1 ≤ (stackL c r).length ∧ (stackL c r).length ≤ 11 := by
  have := loR_b r
  unfold stackL; split
  · exact ⟨Bytes.cons (by omega) (Bytes.cons (by omega) Bytes.nil), by simp, by simp⟩
  · exact ⟨Bytes.cons (by omega) Bytes.nil, by simp, by simp⟩
theorem jumpL_b {c m n : Int} (h : 0 ≤ c ∧ c ≤ 255) (hm : 0 ≤ m ∧ m ≤ 255) : Bytes (jumpL c m n) ∧ 1 ≤ (jumpL c m n).length ∧ (jumpL c m n).length ≤ 11 := by
  unfold jumpL; split
  · exact ⟨Bytes.cons h (Bytes.little _ _), by simp, by simp [littleL_length]⟩
  · exact ⟨Bytes.cons h (Bytes.cons hm (Bytes.little _ _)), by simp, by simp [littleL_length]⟩
theorem encB_1 (d s t mb mi ms md imm : Int) (_h : imm = 0 ∧ Reg d ∧ Reg s ∧ t = 0 ∧ (mb = 0 ∧ mi = 0 ∧ ms = 0 ∧ md = 0)) : Bytes [rexI s 0 d, 137, bothI s d] ∧ 1 ≤ ([rexI s 0 d, 137, bothI s d]).length ∧ ([rexI s 0 d, 137, bothI s d]).length ≤ 11 := by
  have q0 := rexI_b s 0 d
  have q1 := bothI_b s d
  exact ⟨Bytes.cons (by omega) (Bytes.cons (by omega) (Bytes.cons (by omega) Bytes.nil)), by simp, by simp⟩
theorem encB_2 (d s t mb mi ms md imm : Int) (_h : True ∧ Reg d ∧ s = 0 ∧ t = 0 ∧ (mb = 0 ∧ mi = 0 ∧ ms = 0 ∧ md = 0)) : Bytes ([rexI 0 0 d, 184 + loR d] ++ littleL imm 8) ∧ 1 ≤ (([rexI 0 0 d, 184 + loR d] ++ littleL imm 8)).length ∧ (([rexI 0 0 d, 184 + loR d] ++ littleL imm 8)).length ≤ 11 := by
  have q0 := rexI_b 0 0 d
  have l0 := loR_b d
  exact ⟨Bytes.append (Bytes.cons (by omega) (Bytes.cons (by omega) Bytes.nil)) (Bytes.little _ _), by simp, by simp [littleL_length]⟩
theorem encB_3 (d s t mb mi ms md imm : Int) (_h : imm = 0 ∧ Reg d ∧ s = 0 ∧ t = 0 ∧ plc mb mi ms md = true) : Bytes ([rexI d mi mb, 139] ++ placeL d mb mi ms md) ∧ 1 ≤ (([rexI d mi mb, 139] ++ placeL d mb mi ms md)).length ∧ (([rexI d mi mb, 139] ++ placeL d mb mi ms md)).length ≤ 11 := by
  have q0 := rexI_b d mi mb
  exact ⟨Bytes.append (Bytes.cons (by omega) (Bytes.cons (by omega) Bytes.nil)) (placeL_b _ _ _ _ _), by simp, by have := placeL_length d mb mi ms md; simp; omega⟩
theorem encB_4 (d s t mb mi ms md imm : Int) (_h : imm = 0 ∧ d = 0 ∧ Reg s ∧ t = 0 ∧ plc mb mi ms md = true) : Bytes ([rexI s mi mb, 137] ++ placeL s mb mi ms md) ∧ 1 ≤ (([rexI s mi mb, 137] ++ placeL s mb mi ms md)).length ∧ (([rexI s mi mb, 137] ++ placeL s mb mi ms md)).length ≤ 11 := by
  have q0 := rexI_b s mi mb
  exact ⟨Bytes.append (Bytes.cons (by omega) (Bytes.cons (by omega) Bytes.nil)) (placeL_b _ _ _ _ _), by simp, by have := placeL_length s mb mi ms md; simp; omega⟩
theorem encB_5 (d s t mb mi ms md imm : Int) (_h : imm = 0 ∧ Reg d ∧ s = 0 ∧ t = 0 ∧ plc mb mi ms md = true) : Bytes ([rexI d mi mb, 141] ++ placeL d mb mi ms md) ∧ 1 ≤ (([rexI d mi mb, 141] ++ placeL d mb mi ms md)).length ∧ (([rexI d mi mb, 141] ++ placeL d mb mi ms md)).length ≤ 11 := by
  have q0 := rexI_b d mi mb
  exact ⟨Bytes.append (Bytes.cons (by omega) (Bytes.cons (by omega) Bytes.nil)) (placeL_b _ _ _ _ _), by simp, by have := placeL_length d mb mi ms md; simp; omega⟩
theorem encB_6 (d s t mb mi ms md imm : Int) (_h : imm = 0 ∧ Reg d ∧ Reg s ∧ t = 0 ∧ (mb = 0 ∧ mi = 0 ∧ ms = 0 ∧ md = 0)) : Bytes [rexI s 0 d, 1, bothI s d] ∧ 1 ≤ ([rexI s 0 d, 1, bothI s d]).length ∧ ([rexI s 0 d, 1, bothI s d]).length ≤ 11 := by
  have q0 := rexI_b s 0 d
  have q1 := bothI_b s d
  exact ⟨Bytes.cons (by omega) (Bytes.cons (by omega) (Bytes.cons (by omega) Bytes.nil)), by simp, by simp⟩
theorem encB_7 (d s t mb mi ms md imm : Int) (_h : imm = 0 ∧ Reg d ∧ Reg s ∧ t = 0 ∧ (mb = 0 ∧ mi = 0 ∧ ms = 0 ∧ md = 0)) : Bytes [rexI s 0 d, 17, bothI s d] ∧ 1 ≤ ([rexI s 0 d, 17, bothI s d]).length ∧ ([rexI s 0 d, 17, bothI s d]).length ≤ 11 := by
  have q0 := rexI_b s 0 d
  have q1 := bothI_b s d
  exact ⟨Bytes.cons (by omega) (Bytes.cons (by omega) (Bytes.cons (by omega) Bytes.nil)), by simp, by simp⟩
theorem encB_8 (d s t mb mi ms md imm : Int) (_h : imm = 0 ∧ Reg d ∧ Reg s ∧ t = 0 ∧ (mb = 0 ∧ mi = 0 ∧ ms = 0 ∧ md = 0)) : Bytes [rexI s 0 d, 41, bothI s d] ∧ 1 ≤ ([rexI s 0 d, 41, bothI s d]).length ∧ ([rexI s 0 d, 41, bothI s d]).length ≤ 11 := by
  have q0 := rexI_b s 0 d
  have q1 := bothI_b s d
  exact ⟨Bytes.cons (by omega) (Bytes.cons (by omega) (Bytes.cons (by omega) Bytes.nil)), by simp, by simp⟩
theorem encB_9 (d s t mb mi ms md imm : Int) (_h : imm = 0 ∧ Reg d ∧ Reg s ∧ t = 0 ∧ (mb = 0 ∧ mi = 0 ∧ ms = 0 ∧ md = 0)) : Bytes [rexI s 0 d, 25, bothI s d] ∧ 1 ≤ ([rexI s 0 d, 25, bothI s d]).length ∧ ([rexI s 0 d, 25, bothI s d]).length ≤ 11 := by
  have q0 := rexI_b s 0 d
  have q1 := bothI_b s d
  exact ⟨Bytes.cons (by omega) (Bytes.cons (by omega) (Bytes.cons (by omega) Bytes.nil)), by simp, by simp⟩
theorem encB_10 (d s t mb mi ms md imm : Int) (_h : imm = 0 ∧ Reg d ∧ Reg s ∧ t = 0 ∧ (mb = 0 ∧ mi = 0 ∧ ms = 0 ∧ md = 0)) : Bytes [rexI s 0 d, 33, bothI s d] ∧ 1 ≤ ([rexI s 0 d, 33, bothI s d]).length ∧ ([rexI s 0 d, 33, bothI s d]).length ≤ 11 := by
  have q0 := rexI_b s 0 d
  have q1 := bothI_b s d
  exact ⟨Bytes.cons (by omega) (Bytes.cons (by omega) (Bytes.cons (by omega) Bytes.nil)), by simp, by simp⟩
theorem encB_11 (d s t mb mi ms md imm : Int) (_h : imm = 0 ∧ Reg d ∧ Reg s ∧ t = 0 ∧ (mb = 0 ∧ mi = 0 ∧ ms = 0 ∧ md = 0)) : Bytes [rexI s 0 d, 9, bothI s d] ∧ 1 ≤ ([rexI s 0 d, 9, bothI s d]).length ∧ ([rexI s 0 d, 9, bothI s d]).length ≤ 11 := by
  have q0 := rexI_b s 0 d
  have q1 := bothI_b s d
  exact ⟨Bytes.cons (by omega) (Bytes.cons (by omega) (Bytes.cons (by omega) Bytes.nil)), by simp, by simp⟩
theorem encB_12 (d s t mb mi ms md imm : Int) (_h : imm = 0 ∧ Reg d ∧ Reg s ∧ t = 0 ∧ (mb = 0 ∧ mi = 0 ∧ ms = 0 ∧ md = 0)) : Bytes [rexI s 0 d, 49, bothI s d] ∧ 1 ≤ ([rexI s 0 d, 49, bothI s d]).length ∧ ([rexI s 0 d, 49, bothI s d]).length ≤ 11 := by
  have q0 := rexI_b s 0 d
  have q1 := bothI_b s d
  exact ⟨Bytes.cons (by omega) (Bytes.cons (by omega) (Bytes.cons (by omega) Bytes.nil)), by simp, by simp⟩
theorem encB_13 (d s t mb mi ms md imm : Int) (_h : imm = 0 ∧ Reg d ∧ Reg s ∧ t = 0 ∧ (mb = 0 ∧ mi = 0 ∧ ms = 0 ∧ md = 0)) : Bytes [rexI s 0 d, 57, bothI s d] ∧ 1 ≤ ([rexI s 0 d, 57, bothI s d]).length ∧ ([rexI s 0 d, 57, bothI s d]).length ≤ 11 := by
  have q0 := rexI_b s 0 d
  have q1 := bothI_b s d
  exact ⟨Bytes.cons (by omega) (Bytes.cons (by omega) (Bytes.cons (by omega) Bytes.nil)), by simp, by simp⟩
theorem encB_14 (d s t mb mi ms md imm : Int) (_h : imm = 0 ∧ Reg d ∧ Reg s ∧ t = 0 ∧ (mb = 0 ∧ mi = 0 ∧ ms = 0 ∧ md = 0)) : Bytes [rexI s 0 d, 133, bothI s d] ∧ 1 ≤ ([rexI s 0 d, 133, bothI s d]).length ∧ ([rexI s 0 d, 133, bothI s d]).length ≤ 11 := by
  have q0 := rexI_b s 0 d
  have q1 := bothI_b s d
  exact ⟨Bytes.cons (by omega) (Bytes.cons (by omega) (Bytes.cons (by omega) Bytes.nil)), by simp, by simp⟩
theorem encB_15 (d s t mb mi ms md imm : Int) (_h : (-2147483648 ≤ imm ∧ imm ≤ 2147483647) ∧ Reg d ∧ s = 0 ∧ t = 0 ∧ (mb = 0 ∧ mi = 0 ∧ ms = 0 ∧ md = 0)) : Bytes ([rexI 0 0 d, 129, bothI 0 d] ++ littleL imm 4) ∧ 1 ≤ (([rexI 0 0 d, 129, bothI 0 d] ++ littleL imm 4)).length ∧ (([rexI 0 0 d, 129, bothI 0 d] ++ littleL imm 4)).length ≤ 11 := by
  have q0 := rexI_b 0 0 d
  have q1 := bothI_b 0 d
  exact ⟨Bytes.append (Bytes.cons (by omega) (Bytes.cons (by omega) (Bytes.cons (by omega) Bytes.nil))) (Bytes.little _ _), by simp, by simp [littleL_length]⟩
theorem encB_16 (d s t mb mi ms md imm : Int) (_h : (-2147483648 ≤ imm ∧ imm ≤ 2147483647) ∧ Reg d ∧ s = 0 ∧ t = 0 ∧ (mb = 0 ∧ mi = 0 ∧ ms = 0 ∧ md = 0)) : Bytes ([rexI 0 0 d, 129, bothI 4 d] ++ littleL imm 4) ∧ 1 ≤ (([rexI 0 0 d, 129, bothI 4 d] ++ littleL imm 4)).length ∧ (([rexI 0 0 d, 129, bothI 4 d] ++ littleL imm 4)).length ≤ 11 := by
  have q0 := rexI_b 0 0 d
  have q1 := bothI_b 4 d
  exact ⟨Bytes.append (Bytes.cons (by omega) (Bytes.cons (by omega) (Bytes.cons (by omega) Bytes.nil))) (Bytes.little _ _), by simp, by simp [littleL_length]⟩
theorem encB_17 (d s t mb mi ms md imm : Int) (_h : (-2147483648 ≤ imm ∧ imm ≤ 2147483647) ∧ Reg d ∧ s = 0 ∧ t = 0 ∧ (mb = 0 ∧ mi = 0 ∧ ms = 0 ∧ md = 0)) : Bytes ([rexI 0 0 d, 129, bothI 5 d] ++ littleL imm 4) ∧ 1 ≤ (([rexI 0 0 d, 129, bothI 5 d] ++ littleL imm 4)).length ∧ (([rexI 0 0 d, 129, bothI 5 d] ++ littleL imm 4)).length ≤ 11 := by
  have q0 := rexI_b 0 0 d
  have q1 := bothI_b 5 d
  exact ⟨Bytes.append (Bytes.cons (by omega) (Bytes.cons (by omega) (Bytes.cons (by omega) Bytes.nil))) (Bytes.little _ _), by simp, by simp [littleL_length]⟩
theorem encB_18 (d s t mb mi ms md imm : Int) (_h : (-2147483648 ≤ imm ∧ imm ≤ 2147483647) ∧ Reg d ∧ s = 0 ∧ t = 0 ∧ (mb = 0 ∧ mi = 0 ∧ ms = 0 ∧ md = 0)) : Bytes ([rexI 0 0 d, 129, bothI 7 d] ++ littleL imm 4) ∧ 1 ≤ (([rexI 0 0 d, 129, bothI 7 d] ++ littleL imm 4)).length ∧ (([rexI 0 0 d, 129, bothI 7 d] ++ littleL imm 4)).length ≤ 11 := by
  have q0 := rexI_b 0 0 d
  have q1 := bothI_b 7 d
  exact ⟨Bytes.append (Bytes.cons (by omega) (Bytes.cons (by omega) (Bytes.cons (by omega) Bytes.nil))) (Bytes.little _ _), by simp, by simp [littleL_length]⟩
theorem encB_19 (d s t mb mi ms md imm : Int) (h : imm = 0 ∧ Reg d ∧ Reg s ∧ Reg t ∧ (mb = 0 ∧ mi = 0 ∧ ms = 0 ∧ md = 0) ∧ d ≠ s) : Bytes [196, mulx1 d t, mulx2 s, 246, bothI d t] ∧ 1 ≤ ([196, mulx1 d t, mulx2 s, 246, bothI d t]).length ∧ ([196, mulx1 d t, mulx2 s, 246, bothI d t]).length ≤ 11 := by
  have q0 := bothI_b d t
  have l1 := hiR_b d
  have l2 := hiR_b t
  have l3 := h.2.2.1
  unfold Reg at l3
  unfold mulx1 mulx2
  exact ⟨Bytes.cons (by omega) (Bytes.cons (by omega) (Bytes.cons (by omega) (Bytes.cons (by omega) (Bytes.cons (by omega) Bytes.nil)))), by simp, by simp⟩
theorem encB_20 (d s t mb mi ms md imm : Int) (_h : imm = 0 ∧ Reg d ∧ Reg s ∧ t = 0 ∧ (mb = 0 ∧ mi = 0 ∧ ms = 0 ∧ md = 0)) : Bytes [102, rexI d 0 s, 15, 56, 246, bothI d s] ∧ 1 ≤ ([102, rexI d 0 s, 15, 56, 246, bothI d s]).length ∧ ([102, rexI d 0 s, 15, 56, 246, bothI d s]).length ≤ 11 := by
  have q0 := rexI_b d 0 s
  have q1 := bothI_b d s
  exact ⟨Bytes.cons (by omega) (Bytes.cons (by omega) (Bytes.cons (by omega) (Bytes.cons (by omega) (Bytes.cons (by omega) (Bytes.cons (by omega) Bytes.nil))))), by simp, by simp⟩
theorem encB_21 (d s t mb mi ms md imm : Int) (_h : imm = 0 ∧ Reg d ∧ Reg s ∧ t = 0 ∧ (mb = 0 ∧ mi = 0 ∧ ms = 0 ∧ md = 0)) : Bytes [243, rexI d 0 s, 15, 56, 246, bothI d s] ∧ 1 ≤ ([243, rexI d 0 s, 15, 56, 246, bothI d s]).length ∧ ([243, rexI d 0 s, 15, 56, 246, bothI d s]).length ≤ 11 := by
  have q0 := rexI_b d 0 s
  have q1 := bothI_b d s
  exact ⟨Bytes.cons (by omega) (Bytes.cons (by omega) (Bytes.cons (by omega) (Bytes.cons (by omega) (Bytes.cons (by omega) (Bytes.cons (by omega) Bytes.nil))))), by simp, by simp⟩
theorem encB_22 (d s t mb mi ms md imm : Int) (_h : imm = 0 ∧ Reg d ∧ s = 0 ∧ t = 0 ∧ (mb = 0 ∧ mi = 0 ∧ ms = 0 ∧ md = 0)) : Bytes [rexI 0 0 d, 247, bothI 3 d] ∧ 1 ≤ ([rexI 0 0 d, 247, bothI 3 d]).length ∧ ([rexI 0 0 d, 247, bothI 3 d]).length ≤ 11 := by
  have q0 := rexI_b 0 0 d
  have q1 := bothI_b 3 d
  exact ⟨Bytes.cons (by omega) (Bytes.cons (by omega) (Bytes.cons (by omega) Bytes.nil)), by simp, by simp⟩
theorem encB_23 (d s t mb mi ms md imm : Int) (_h : imm = 0 ∧ Reg d ∧ s = 0 ∧ t = 0 ∧ (mb = 0 ∧ mi = 0 ∧ ms = 0 ∧ md = 0)) : Bytes [rexI 0 0 d, 247, bothI 2 d] ∧ 1 ≤ ([rexI 0 0 d, 247, bothI 2 d]).length ∧ ([rexI 0 0 d, 247, bothI 2 d]).length ≤ 11 := by
  have q0 := rexI_b 0 0 d
  have q1 := bothI_b 2 d
  exact ⟨Bytes.cons (by omega) (Bytes.cons (by omega) (Bytes.cons (by omega) Bytes.nil)), by simp, by simp⟩
theorem encB_24 (d s t mb mi ms md imm : Int) (h : (1 ≤ imm ∧ imm ≤ 63) ∧ Reg d ∧ s = 0 ∧ t = 0 ∧ (mb = 0 ∧ mi = 0 ∧ ms = 0 ∧ md = 0)) : Bytes ([rexI 0 0 d, 193, bothI 4 d] ++ [imm]) ∧ 1 ≤ (([rexI 0 0 d, 193, bothI 4 d] ++ [imm])).length ∧ (([rexI 0 0 d, 193, bothI 4 d] ++ [imm])).length ≤ 11 := by
  have q0 := rexI_b 0 0 d
  have q1 := bothI_b 4 d
  have l4 := h.1
  exact ⟨Bytes.append (Bytes.cons (by omega) (Bytes.cons (by omega) (Bytes.cons (by omega) Bytes.nil))) (Bytes.cons (by omega) Bytes.nil), by simp, by simp⟩
theorem encB_25 (d s t mb mi ms md imm : Int) (h : (1 ≤ imm ∧ imm ≤ 63) ∧ Reg d ∧ s = 0 ∧ t = 0 ∧ (mb = 0 ∧ mi = 0 ∧ ms = 0 ∧ md = 0)) : Bytes ([rexI 0 0 d, 193, bothI 5 d] ++ [imm]) ∧ 1 ≤ (([rexI 0 0 d, 193, bothI 5 d] ++ [imm])).length ∧ (([rexI 0 0 d, 193, bothI 5 d] ++ [imm])).length ≤ 11 := by
  have q0 := rexI_b 0 0 d
  have q1 := bothI_b 5 d
  have l4 := h.1
  exact ⟨Bytes.append (Bytes.cons (by omega) (Bytes.cons (by omega) (Bytes.cons (by omega) Bytes.nil))) (Bytes.cons (by omega) Bytes.nil), by simp, by simp⟩
theorem encB_26 (d s t mb mi ms md imm : Int) (_h : imm = 0 ∧ Reg d ∧ Reg s ∧ t = 0 ∧ (mb = 0 ∧ mi = 0 ∧ ms = 0 ∧ md = 0)) : Bytes [rexI d 0 s, 15, 66, bothI d s] ∧ 1 ≤ ([rexI d 0 s, 15, 66, bothI d s]).length ∧ ([rexI d 0 s, 15, 66, bothI d s]).length ≤ 11 := by
  have q0 := rexI_b d 0 s
  have q1 := bothI_b d s
  exact ⟨Bytes.cons (by omega) (Bytes.cons (by omega) (Bytes.cons (by omega) (Bytes.cons (by omega) Bytes.nil))), by simp, by simp⟩
theorem encB_27 (d s t mb mi ms md imm : Int) (_h : imm = 0 ∧ Reg d ∧ Reg s ∧ t = 0 ∧ (mb = 0 ∧ mi = 0 ∧ ms = 0 ∧ md = 0)) : Bytes [rexI d 0 s, 15, 69, bothI d s] ∧ 1 ≤ ([rexI d 0 s, 15, 69, bothI d s]).length ∧ ([rexI d 0 s, 15, 69, bothI d s]).length ≤ 11 := by
  have q0 := rexI_b d 0 s
  have q1 := bothI_b d s
  exact ⟨Bytes.cons (by omega) (Bytes.cons (by omega) (Bytes.cons (by omega) (Bytes.cons (by omega) Bytes.nil))), by simp, by simp⟩
theorem encB_28 (d s t mb mi ms md imm : Int) (_h : imm = 0 ∧ d = 0 ∧ Reg s ∧ t = 0 ∧ (mb = 0 ∧ mi = 0 ∧ ms = 0 ∧ md = 0)) : Bytes (stackL 80 s) ∧ 1 ≤ (stackL 80 s).length ∧ (stackL 80 s).length ≤ 11 := by
  exact stackL_b (by omega)
theorem encB_29 (d s t mb mi ms md imm : Int) (_h : imm = 0 ∧ Reg d ∧ s = 0 ∧ t = 0 ∧ (mb = 0 ∧ mi = 0 ∧ ms = 0 ∧ md = 0)) : Bytes (stackL 88 d) ∧ 1 ≤ (stackL 88 d).length ∧ (stackL 88 d).length ≤ 11 := by
  exact stackL_b (by omega)
theorem encB_30 (d s t mb mi ms md imm : Int) (_h : (-2147483648 ≤ imm ∧ imm ≤ 2147483647) ∧ d = 0 ∧ s = 0 ∧ t = 0 ∧ (mb = 0 ∧ mi = 0 ∧ ms = 0 ∧ md = 0)) : Bytes (jumpL 233 0 imm) ∧ 1 ≤ (jumpL 233 0 imm).length ∧ (jumpL 233 0 imm).length ≤ 11 := by
  exact jumpL_b (by omega) (by omega)
theorem encB_31 (d s t mb mi ms md imm : Int) (_h : (-2147483648 ≤ imm ∧ imm ≤ 2147483647) ∧ d = 0 ∧ s = 0 ∧ t = 0 ∧ (mb = 0 ∧ mi = 0 ∧ ms = 0 ∧ md = 0)) : Bytes (jumpL 15 133 imm) ∧ 1 ≤ (jumpL 15 133 imm).length ∧ (jumpL 15 133 imm).length ≤ 11 := by
  exact jumpL_b (by omega) (by omega)
theorem encB_32 (d s t mb mi ms md imm : Int) (_h : (-2147483648 ≤ imm ∧ imm ≤ 2147483647) ∧ d = 0 ∧ s = 0 ∧ t = 0 ∧ (mb = 0 ∧ mi = 0 ∧ ms = 0 ∧ md = 0)) : Bytes (jumpL 15 130 imm) ∧ 1 ≤ (jumpL 15 130 imm).length ∧ (jumpL 15 130 imm).length ≤ 11 := by
  exact jumpL_b (by omega) (by omega)
theorem encB_33 (d s t mb mi ms md imm : Int) (_h : imm = 0 ∧ d = 0 ∧ s = 0 ∧ t = 0 ∧ (mb = 0 ∧ mi = 0 ∧ ms = 0 ∧ md = 0)) : Bytes [195] ∧ 1 ≤ ([195]).length ∧ ([195]).length ≤ 11 := by
  exact ⟨Bytes.cons (by omega) Bytes.nil, by simp, by simp⟩
theorem encL_bytes {op d s t mb mi ms md imm : Int} (h : chk op d s t mb mi ms md imm = true) : Bytes (encL op d s t mb mi ms md imm) ∧ 1 ≤ (encL op d s t mb mi ms md imm).length ∧ (encL op d s t mb mi ms md imm).length ≤ 11 := by
  have hr := chk_range h
  have : op = 1 ∨ op = 2 ∨ op = 3 ∨ op = 4 ∨ op = 5 ∨ op = 6 ∨ op = 7 ∨ op = 8 ∨ op = 9 ∨ op = 10 ∨ op = 11 ∨ op = 12 ∨ op = 13 ∨ op = 14 ∨ op = 15 ∨ op = 16 ∨ op = 17 ∨ op = 18 ∨ op = 19 ∨ op = 20 ∨ op = 21 ∨ op = 22 ∨ op = 23 ∨ op = 24 ∨ op = 25 ∨ op = 26 ∨ op = 27 ∨ op = 28 ∨ op = 29 ∨ op = 30 ∨ op = 31 ∨ op = 32 ∨ op = 33 := by omega
  rcases this with rfl | rfl | rfl | rfl | rfl | rfl | rfl | rfl | rfl | rfl | rfl | rfl | rfl | rfl | rfl | rfl | rfl | rfl | rfl | rfl | rfl | rfl | rfl | rfl | rfl | rfl | rfl | rfl | rfl | rfl | rfl | rfl | rfl
  · rw [chk_1] at h; exact encB_1 d s t mb mi ms md imm h
  · rw [chk_2] at h; exact encB_2 d s t mb mi ms md imm h
  · rw [chk_3] at h; exact encB_3 d s t mb mi ms md imm h
  · rw [chk_4] at h; exact encB_4 d s t mb mi ms md imm h
  · rw [chk_5] at h; exact encB_5 d s t mb mi ms md imm h
  · rw [chk_6] at h; exact encB_6 d s t mb mi ms md imm h
  · rw [chk_7] at h; exact encB_7 d s t mb mi ms md imm h
  · rw [chk_8] at h; exact encB_8 d s t mb mi ms md imm h
  · rw [chk_9] at h; exact encB_9 d s t mb mi ms md imm h
  · rw [chk_10] at h; exact encB_10 d s t mb mi ms md imm h
  · rw [chk_11] at h; exact encB_11 d s t mb mi ms md imm h
  · rw [chk_12] at h; exact encB_12 d s t mb mi ms md imm h
  · rw [chk_13] at h; exact encB_13 d s t mb mi ms md imm h
  · rw [chk_14] at h; exact encB_14 d s t mb mi ms md imm h
  · rw [chk_15] at h; exact encB_15 d s t mb mi ms md imm h
  · rw [chk_16] at h; exact encB_16 d s t mb mi ms md imm h
  · rw [chk_17] at h; exact encB_17 d s t mb mi ms md imm h
  · rw [chk_18] at h; exact encB_18 d s t mb mi ms md imm h
  · rw [chk_19] at h; exact encB_19 d s t mb mi ms md imm h
  · rw [chk_20] at h; exact encB_20 d s t mb mi ms md imm h
  · rw [chk_21] at h; exact encB_21 d s t mb mi ms md imm h
  · rw [chk_22] at h; exact encB_22 d s t mb mi ms md imm h
  · rw [chk_23] at h; exact encB_23 d s t mb mi ms md imm h
  · rw [chk_24] at h; exact encB_24 d s t mb mi ms md imm h
  · rw [chk_25] at h; exact encB_25 d s t mb mi ms md imm h
  · rw [chk_26] at h; exact encB_26 d s t mb mi ms md imm h
  · rw [chk_27] at h; exact encB_27 d s t mb mi ms md imm h
  · rw [chk_28] at h; exact encB_28 d s t mb mi ms md imm h
  · rw [chk_29] at h; exact encB_29 d s t mb mi ms md imm h
  · rw [chk_30] at h; exact encB_30 d s t mb mi ms md imm h
  · rw [chk_31] at h; exact encB_31 d s t mb mi ms md imm h
  · rw [chk_32] at h; exact encB_32 d s t mb mi ms md imm h
  · rw [chk_33] at h; exact encB_33 d s t mb mi ms md imm h

/-! Strings of bytes -/
theorem foldl_push (bs : List Int) : ∀ s : ByteArray, (bs.foldl (fun r n => r.push (UInt8.ofNat n.toNat)) s).data.toList = s.data.toList ++ bs.map (fun n => UInt8.ofNat n.toNat) := by
  induction bs with
  | nil => intro s; simp
  | cons b bs ih => intro s; rw [List.foldl_cons, ih]; simp [ByteArray.push]
theorem strB_list (bs : List Int) : (strB bs).data.toList = bs.map (fun n => UInt8.ofNat n.toNat) := by
  unfold strB; rw [foldl_push]; rfl
theorem ba_ext {a b : ByteArray} (h : a.data.toList = b.data.toList) : a = b := by
  exact ByteArray.ext (Array.toList_inj.1 h)
theorem strB_append (a b : List Int) : strB (a ++ b) = strB a ++ strB b := by
  apply ba_ext; rw [strB_list, ByteArray.data_append, Array.toList_append, strB_list, strB_list, List.map_append]
theorem strB_size (bs : List Int) : (strB bs).size = bs.length := by
  show (strB bs).data.size = _
  rw [← Array.length_toList, strB_list, List.length_map]
theorem u8_inj {a b : Int} (ha : 0 ≤ a ∧ a ≤ 255) (hb : 0 ≤ b ∧ b ≤ 255) (h : UInt8.ofNat a.toNat = UInt8.ofNat b.toNat) : a = b := by
  have := congrArg UInt8.toNat h
  rw [UInt8.toNat_ofNat_of_lt' (by show _ < 256; omega), UInt8.toNat_ofNat_of_lt' (by show _ < 256; omega)] at this
  omega
theorem u8_back {a : Int} (ha : 0 ≤ a ∧ a ≤ 255) : ((UInt8.ofNat a.toNat).toNat : Int) = a := by
  rw [UInt8.toNat_ofNat_of_lt' (by show _ < 256; omega)]; omega
theorem strB_inj : ∀ {a b : List Int}, Bytes a → Bytes b → strB a = strB b → a = b := by
  intro a b ha hb h
  have h' : a.map (fun n => UInt8.ofNat n.toNat) = b.map (fun n => UInt8.ofNat n.toNat) := by rw [← strB_list, ← strB_list, h]
  clear h
  induction a generalizing b with
  | nil => cases b with
    | nil => rfl
    | cons _ _ => simp at h'
  | cons x a ih => cases b with
    | nil => simp at h'
    | cons y b =>
      simp only [List.map_cons, List.cons.injEq] at h'
      rw [u8_inj (ha x List.mem_cons_self) (hb y List.mem_cons_self) h'.1, ih (fun z hz => ha z (List.mem_cons_of_mem _ hz)) (fun z hz => hb z (List.mem_cons_of_mem _ hz)) h'.2]
theorem Ins.out_ok {x : Ins} (h : x.chk = true) : x.out = strB x.enc := by unfold Ins.out outE; exact if_pos h
theorem Ins.out_bad {x : Ins} (h : x.chk = false) : x.out = ⟨#[]⟩ := by unfold Ins.out outE; exact if_neg (by show ¬ x.chk = true; rw [h]; decide)
theorem Ins.enc_bytes {x : Ins} (h : x.chk = true) : Bytes x.enc ∧ 1 ≤ x.enc.length ∧ x.enc.length ≤ 11 := encL_bytes h
theorem Ins.out_size (x : Ins) : x.out.size ≤ 11 := by
  cases h : x.chk
  · rw [Ins.out_bad h]; decide
  · rw [Ins.out_ok h, strB_size]; exact (Ins.enc_bytes h).2.2
end Go.Proofs.Ytakmpnmmcjnecaa
