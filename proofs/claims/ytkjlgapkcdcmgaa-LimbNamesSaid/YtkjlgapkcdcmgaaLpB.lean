/- LimbNames: with, checks; what the examples come to. -/
import Derived.Test.YtkjlgapkcdcmgaaLp7
set_option linter.unusedVariables false
set_option linter.unusedSimpArgs false
namespace Go.Proofs.Ytkjlgapkcdcmgaa
open Go Go.RowKit SL
attribute [local irreducible] SL.L SL.C SL.D SL.N SL.H SL.QL SL.QW SL.QP

set_option maxHeartbeats 4000000 in
theorem with_S (v : Value) (os : List Lop) (hn : os.length ≤ 1000) : Ctr Try.prog 41 [v] [] (fun w => Rd w [] v os.length (os.flatMap encO))
    (fun u B => ∃ b1 y, u = shut [progV 2 (.slice (some ⟨b1, 0, none⟩) 1 1) (osV (xO ++ os).length y)] ∧ osG 8 (xO ++ os).length ((xO ++ os).flatMap encO) y ∧ B = (b1, ob (xB.flatMap encB) 33) :: osC 39 y []) := by
  refine Ctr.enter Try.func41 Try.ntmps41 rfl rfl (fun w hr => ?_)
  repeat' (first | refine C.seq ?_ | refine C.region ?_ | refine L.nil ?_ | refine D.seq ?_ | refine L.alloc (c := fun _ => ?_))
  rename_i rb
  refine L.callP [] example12_S (k := ?_)
  rintro u B ⟨b1, b2, rfl, rfl⟩
  rw [hdrop_nil]
  unfold shut
  simp only [List.cons_append, List.nil_append]
  repeat' (first | refine C.seq ?_ | refine C.region ?_ | refine L.nil ?_ | refine L.move (k := ?_) | refine L.fieldAddr (c := ?_) | refine L.load1 0 (c := ?_) | refine L.storeV 0 (c := ?_) | refine L.alloc (c := fun _ => ?_) | refine D.seqR (h := ?_))
  rename_i pb
  have hG0 : osG 8 3 (xO.flatMap encO) (some (b2, xO.flatMap encO, 3)) := ⟨by decide, Nat.le_refl _, by unfold maxLen; omega, rfl⟩
  refine L.appendU [_] (y := some (b2, xO.flatMap encO, 3)) (L2 := [(b1, ob (xB.flatMap encB) 33), (rb, ob [.int .i64 0, .slice none 0 0, .slice none 0 0] 25)]) (cs := xO.flatMap encO) (m := 3) (k := os.length) (news := os.flatMap encO) hG0 rfl (fun w hw => hr.at hw) (flat_len encO_len os) (ones_flat ones_O os) (by unfold maxLen; omega) (by omega) (c := fun y hG _ => ?_)
  have hl : (xO ++ os).length = 3 + os.length := by rw [List.length_append]; rfl
  rw [← List.flatMap_append, ← hl] at hG
  rw [← hl]
  simp only [List.cons_append, List.nil_append]
  repeat' (first | refine L.storeV 0 (hc := osV_cells _ _) (ho := osV_one _ _) (hl := rfl) (M' := (pb, ob [.int .i64 2, .slice (some ⟨b1, 0, none⟩) 1 1, osV (xO ++ os).length y] 25) :: osC 39 y [(b1, ob (xB.flatMap encB) 33), (rb, ob [.int .i64 0, .slice none 0 0, .slice none 0 0] 25)]) (hM := rfl) (c := ?_) | refine C.seq ?_ | refine C.region ?_ | refine L.nil ?_ | refine L.fieldAddr (c := ?_) | refine L.loadA 0 (c := ?_) | refine D.seqR (h := ?_))
  refine L.perm (M' := (pb, ob [.int .i64 2, .slice (some ⟨b1, 0, none⟩) 1 1, osV (xO ++ os).length y] 25) :: (rb, ob [.int .i64 0, .slice none 0 0, .slice none 0 0] 25) :: (b1, ob (xB.flatMap encB) 33) :: osC 39 y []) (by
    rw [osC_app 39 y [(b1, _), (rb, _)]]
    exact perm_by (fun k => match k with | 0 => [(pb, ob [.int .i64 2, .slice (some ⟨b1, 0, none⟩) 1 1, osV (xO ++ os).length y] 25)] | 1 => osC 39 y [] | 2 => [(b1, ob (xB.flatMap encB) 33)] | _ => [(rb, ob [.int .i64 0, .slice none 0 0, .slice none 0 0] 25)]) [0, 3, 2, 1] [0, 1, 2, 3] (by simp) (by simp)) ?_
  refine L.storeV 1 (vs := [.int .i64 2, .slice (some ⟨b1, 0, none⟩) 1 1, osV (xO ++ os).length y]) (ho := by simp only [List.all_cons, List.all_nil, oneB_os, Bool.and_true]; rfl) (hl := rfl) (hM := rfl) (c := ?_)
  repeat' (first | refine L.nil ?_ | refine D.seq ?_ | refine C.ret ?_)
  refine D.ret (vs := [.agg #[.int .i64 2, .slice (some ⟨b1, 0, none⟩) 1 1, osV (xO ++ os).length y]]) (RV.cellA 1 rfl rfl rfl rfl rfl RV.nil) ?_
  intro w' hw
  exact Post.mkD 2 hw rfl ⟨b1, y, rfl, hG, rfl⟩
theorem checks_S (regs : Int) (vb vo : Value) (bs : List Bf) (os : List Lop) (k f : Int) (hbl : bs.length ≤ maxLen) (h : checkM regs bs os = (k, f)) : Ctr Try.prog 42 [progV regs vb vo, .int .i64 k, .int .i64 f] [] (fun w => Rd w [] vb bs.length (bs.flatMap encB) ∧ Rd w [] vo os.length (os.flatMap encO)) (is (.bool true) []) := by
  refine Ctr.enter Try.func42 Try.ntmps42 rfl rfl (fun w hr => ?_)
  unfold progV
  repeat' (first | refine C.seq ?_ | refine C.region ?_ | refine L.nil ?_ | refine D.seq ?_ | refine L.assign (k := ?_) | refine L.loadA 0 (c := ?_) | refine L.box (c := fun _ => ?_))
  refine L.callP [] (check_S regs vb vo bs os hbl) (hpre := fun w hw => ⟨hr.1.at hw, hr.2.at hw⟩) (k := ?_)
  rintro u0 B0 ⟨rfl, rfl⟩
  rw [hdrop_nil, h]
  unfold shut
  have c1 : cm .eql k k = true := cm_yes rfl
  have c2 : cm .eql f f = true := cm_yes rfl
  repeat' (first | refine C.seq ?_ | refine C.region ?_ | refine L.nil ?_ | refine D.seq ?_ | refine L.move (k := ?_) | refine L.assign (k := ?_) | refine L.cm (c := ?_) | refine L.extract (c := ?_) | refine L.pickT (k := ?_) | refine L.want (k := ?_) | refine C.ret ?_)
  (refine D.ret (vs := [_]) (RV.tmp rfl RV.nil) ?_; intro w' hw; exact Post.mk (is := []) hw List.nodup_nil rfl ⟨rfl, rfl⟩)
/-- The programs of the examples. -/
def lpO (k d e a b c buf imm : Int) : Lop := ⟨k, d, e, a, b, c, buf, imm⟩
def nmB1 : List Bf := [⟨2, 1, false⟩]
def nmMade : List Lop := [lpO 1 0 (-1) (-1) (-1) (-1) 0 3, lpO 16 0 (-1) (-1) (-1) (-1) 0 2, endO]
def nmOwn : List Lop := [lpO 16 1 (-1) (-1) (-1) (-1) 0 2, lpO 1 1 (-1) (-1) (-1) (-1) 0 2, endO]
def nmNest (i : Nat) : List Lop := (List.range i).map fun (j : Nat) => lpO 16 (j : Int) (-1) (-1) (-1) (-1) 0 1048576
def nmDeep (i : Nat) : List Lop := nmNest 8 ++ List.replicate i endO
def nmP : List Lop := [lpO 1 0 (-1) (-1) (-1) (-1) 0 18446744073709551615, lpO 1 1 (-1) (-1) (-1) (-1) 0 1, lpO 11 0 1 0 1 1 0 0, lpO 15 (-1) (-1) 1 0 (-1) 0 18446744073709551615, lpO 15 (-1) (-1) (-1) 1 (-1) 0 1]
def nmQ : List Lop := [lpO 1 0 (-1) (-1) (-1) (-1) 0 2, lpO 14 1 (-1) 0 (-1) (-1) 0 0]
theorem nm1 : checkM 65 xB xO = (0, 3) := by decide +kernel
theorem nm2 : checkM 2 nmB1 xO = (1, 2) := by decide +kernel
theorem nm3 : checkM 2 xB (xO ++ [lpO 2 1 (-1) 0 (-1) (-1) 0 0]) = (3, 5) := by decide +kernel
theorem nm4 : checkM 2 xB (xO ++ [endO]) = (3, 9) := by decide +kernel
theorem nm5 : checkM 2 xB (xO ++ nmMade) = (4, 9) := by decide +kernel
theorem nm6 : checkM 2 xB (xO ++ nmOwn) = (4, 9) := by decide +kernel
theorem nm7 : checkM 9 [] (nmNest 9) = (8, 10) := by decide +kernel
theorem nm8 : checkM 2 xB (xO ++ [lpO 16 1 (-1) (-1) (-1) (-1) 0 2]) = (4, 9) := by decide +kernel
theorem nm9 : checkM 2 xB (xO ++ [lpO 1 1 (-1) 0 (-1) (-1) 0 2]) = (3, 2) := by decide +kernel
theorem nm10 : checkM 2 xB (xO ++ [lpO 14 1 (-1) (-1) (-1) (-1) 0 2]) = (3, 2) := by decide +kernel
theorem nmR1 (v : Value) : (outR 2 xB (xO ++ nmP) [(v, [0, 0])]).1 = 0 ∧ (outR 2 xB (xO ++ nmP) [(v, [0, 0])]).2.1 = [[1, 1]] ∧ (outR 2 xB (xO ++ nmP) [(v, [0, 0])]).2.2.length = 9 ∧ ((outR 2 xB (xO ++ nmP) [(v, [0, 0])]).2.2[7]?.map (·.at_)) = some 0 := by
  rw [outR_snd (rs := [(v, [0, 0])]) (rt := [(nilV, [0, 0])]) rfl]
  decide +kernel
theorem nmR2 (v : Value) : (outR 2 xB (xO ++ nmQ) [(v, [0, 0])]).1 = 11 ∧ (outR 2 xB (xO ++ nmQ) [(v, [0, 0])]).2.2.length = 5 := by
  rw [outR_snd (rs := [(v, [0, 0])]) (rt := [(nilV, [0, 0])]) rfl]
  decide +kernel
theorem nmR3 (v : Value) : (outR 2 xB (xO ++ nmQ) [(v, [0])]).1 = 2 := by
  rw [outR_snd (rs := [(v, [0])]) (rt := [(nilV, [0])]) rfl]
  decide +kernel
theorem nmR4 : (outR 9 [] (nmDeep 8) []).1 = 10 := by decide +kernel
theorem nmS1 : stepsR 9 [] (nmDeep 8) = 1125899906842624 := by decide +kernel
theorem nmS2 : stepsR 2 xB xO = 4 := by decide +kernel
theorem nmE : (if (checkM 2 xB xO).2 ≠ 0 then [] else eRun xO xO.length) = [2, -1, 0] := by decide +kernel
end Go.Proofs.Ytkjlgapkcdcmgaa
