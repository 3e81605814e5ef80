/- SecrecyNames. -/
import Derived.Test.YtkjlgapkcdcmgaaLk26
import Derived.Test.YtkjlgapkcdcmgaaLk23
set_option linter.unusedVariables false
set_option linter.unusedSimpArgs false
namespace Go.Proofs.Ytkjlgapkcdcmgaa
open Go Go.RowKit SL
attribute [local irreducible] SL.L SL.C SL.D SL.N SL.H SL.QL SL.QW SL.QP

theorem SL.At.nilr {w0 w : World} {A : List Nat} {M : Hp} (h : At w0 A M w) : At w0 A (M ++ []) w := by rw [List.append_nil]; exact h
theorem op13_E (k d a b buf imm : Int) : Ctr Try.prog 20 [.int .i64 k, .int .i64 d, .int .i64 a, .int .i64 b, .int .i64 buf, .int .u64 imm] [] tt (is (.agg #[.int .i64 k, .int .i64 d, .int .i64 (-1), .int .i64 a, .int .i64 b, .int .i64 (-1), .int .i64 buf, .int .u64 imm]) []) := op13_S k d a b buf imm
def opsP : List Lop := [⟨14, 0, -1, -1, -1, -1, 0, 0⟩, ⟨15, -1, -1, -1, 0, -1, 1, 0⟩]
def opsQ : List Lop := [⟨1, 1, -1, -1, -1, -1, 0, 1⟩, ⟨14, 0, -1, 1, -1, -1, 1, 0⟩, ⟨14, 2, -1, 0, -1, -1, 0, 0⟩, ⟨3, 0, -1, 0, 1, -1, 0, 0⟩]
def opsR : List Lop := [⟨14, 0, -1, -1, -1, -1, 0, 0⟩, ⟨2, 1, -1, 0, -1, -1, 0, 0⟩, ⟨1, 0, -1, -1, -1, -1, 0, 0⟩]
def opsS : List Lop := [⟨16, 0, -1, -1, -1, -1, 0, 2⟩, ⟨17, -1, -1, -1, -1, -1, 0, 0⟩, ⟨14, 0, -1, -1, -1, -1, 0, 0⟩]
theorem runP {x : Int × Int} (h : CheckIs 3 exB opsP x) : x = (1, 12) := by
  unfold CheckIs at h
  rw [if_pos (by decide +kernel)] at h
  obtain ⟨m, hl, _, hx⟩ := h
  have : m = itP exB opsP 1 := least_eq hl (least_it 1 (by decide +kernel))
  subst this
  rw [hx]; decide +kernel
theorem runQ {x : Int × Int} (h : CheckIs 3 exB opsQ x) : x = (4, 0) := by
  unfold CheckIs at h
  rw [if_pos (by decide +kernel)] at h
  obtain ⟨m, hl, _, hx⟩ := h
  have : m = itP exB opsQ 1 := least_eq hl (least_it 1 (by decide +kernel))
  subst this
  rw [hx]; decide +kernel
theorem runS {x : Int × Int} (h : CheckIs 3 exB opsS x) : x = (0, 12) := by
  unfold CheckIs at h
  rw [if_pos (by decide +kernel)] at h
  obtain ⟨m, hl, _, hx⟩ := h
  have : m = itP exB opsS 1 := least_eq hl (least_it 1 (by decide +kernel))
  subst this
  rw [hx]; decide +kernel
theorem secR {l : List Bool} (h : SecIs 3 exB opsR l) : l = [true, true, false] := by
  unfold SecIs at h
  rw [if_pos (by decide +kernel)] at h
  obtain ⟨m, hl, _, hx⟩ := h
  have : m = itP exB opsR 2 := least_eq hl (least_it 2 (by decide +kernel))
  subst this
  rw [hx]; decide +kernel
theorem secN {l : List Bool} (h : SecIs (-1) [] [] l) : l = [] := by
  unfold SecIs at h
  rwa [if_neg (by decide +kernel)] at h
theorem okQ : (checkM 3 exB opsQ).2 = 0 := by decide +kernel
theorem pub1 (a b c d : Value) : publicM 3 exB opsQ [(a, [1, 2]), (b, [3, 4])] [(c, [9, 9]), (d, [3, 4])] = true := by
  unfold publicM
  rw [okQ]
  simp [rowsM, sizesM, okRow, exB, pubM, pubOne, cm]
theorem pub2 (a b c d : Value) : publicM 3 exB opsQ [(a, [1, 2]), (b, [3, 4])] [(c, [1, 2]), (d, [3, 5])] = false := by
  unfold publicM
  rw [okQ]
  simp [rowsM, sizesM, okRow, exB, pubM, pubOne, cm]
theorem pub3 (a b : Value) : publicM 3 exB opsQ [(a, [1, 2]), (b, [3, 4])] [] = false := by
  unfold publicM
  rw [okQ]
  simp [rowsM, sizesM, okRow, exB, pubM, pubOne, cm]
theorem exO_cells : exO.flatMap encO = [.int .i64 14, .int .i64 0, .int .i64 (-1), .int .i64 (-1), .int .i64 (-1), .int .i64 (-1), .int .i64 0, .int .u64 0, .int .i64 14, .int .i64 1, .int .i64 (-1), .int .i64 0, .int .i64 (-1), .int .i64 (-1), .int .i64 0, .int .u64 0] := rfl
theorem exB_cells : exB.flatMap encB = [.int .i64 2, .int .i64 1, .bool true, .int .i64 2, .int .i64 2, .bool false] := rfl
set_option maxRecDepth 100000 in
set_option maxHeartbeats 16000000 in
theorem names13_S : Ctr Try.prog 6 [] [] tt (is (.bool true) []) := by
  refine Ctr.enter Try.func6 Try.ntmps6 rfl rfl (fun w _ => ?_)
  repeat' (first | refine C.seq ?_ | refine C.region ?_ | refine L.nil ?_ | refine D.seq ?_ | refine L.assign (k := ?_) | refine C.no (h1 := ?_) | refine L.not (c := ?_) | refine C.skip ?_ | refine L.callQ (lives13_S) (k := ?_))
  refine L.callP [] example13_S (k := ?_)
  rintro v B ⟨pB, pO, rfl, rfl⟩
  rw [hdrop_nil, exO_cells, exB_cells]
  simp only [List.cons_append, List.nil_append]
  unfold progV
  repeat' (first | refine C.seq ?_ | refine L.nil ?_ | refine L.storeV 0 (c := ?_) | refine L.alloc (c := fun _ => ?_) | refine D.seqR (h := ?_) | refine L.callQ (op13_E _ _ _ _ _ _) (k := ?_))
  rename_i pb
  refine C.make [(pb, ob [.int .i64 3, .slice (some ⟨pB, 0, none⟩) 2 2, .slice (some ⟨pO, 0, none⟩) 2 2] 25), (pB, ob [.int .i64 2, .int .i64 1, .bool true, .int .i64 2, .int .i64 2, .bool false] 33)] (by kernel_rfl) (h := ?_)
  iterate 4 ((refine QP.quiet (v := ?_) (by exact rfl) (by exact rfl) (fun w1 g1 => ?_) ?_; rotate_left); repeat (first | refine L.nil ?_ | refine L.fieldAddr (c := ?_) | refine L.load1 0 (c := ?_) | exact D.endsQ | refine L.callQ (op13_E _ _ _ _ _ _) (k := ?_) | refine L.indexP (k := 1) (hi := rfl) (hk := by decide) (c := ?_)))
  refine QP.mk0 [(pO, ob [.int .i64 14, .int .i64 0, .int .i64 (-1), .int .i64 (-1), .int .i64 (-1), .int .i64 (-1), .int .i64 0, .int .u64 0, .int .i64 14, .int .i64 1, .int .i64 (-1), .int .i64 0, .int .i64 (-1), .int .i64 (-1), .int .i64 0, .int .u64 0] 39)] (fun F B => F = [] ∧ B = [(pO, ob [.int .i64 14, .int .i64 0, .int .i64 (-1), .int .i64 (-1), .int .i64 (-1), .int .i64 (-1), .int .i64 0, .int .u64 0, .int .i64 15, .int .i64 (-1), .int .i64 (-1), .int .i64 (-1), .int .i64 0, .int .i64 (-1), .int .i64 1, .int .u64 0] 39)]) (h := fun w1 g1 => ?_) (k := ?_)
  · refine L.storeV 0 (l' := [.int .i64 14, .int .i64 0, .int .i64 (-1), .int .i64 (-1), .int .i64 (-1), .int .i64 (-1), .int .i64 0, .int .u64 0, .int .i64 15, .int .i64 (-1), .int .i64 (-1), .int .i64 (-1), .int .i64 0, .int .i64 (-1), .int .i64 1, .int .u64 0]) (hl := rfl) (hM := rfl) (c := ?_)
    refine L.nil ?_
    exact D.endsP0 [] [(pO, ob [.int .i64 14, .int .i64 0, .int .i64 (-1), .int .i64 (-1), .int .i64 (-1), .int .i64 (-1), .int .i64 0, .int .u64 0, .int .i64 15, .int .i64 (-1), .int .i64 (-1), .int .i64 (-1), .int .i64 0, .int .i64 (-1), .int .i64 1, .int .u64 0] 39)] (hM := rfl) (hF := fun _ _ h => by cases h) (hR := ⟨rfl, rfl⟩)
  refine QP.fin1 [none, none, none, none, some []] 4 (nds := [[], [], [], [], []]) (hM := List.Perm.swap _ _ _) (k := ?_)
  rintro F B ⟨rfl, rfl⟩
  simp only [List.cons_append, List.nil_append]
  repeat' (first | refine C.seq ?_ | refine C.region ?_ | refine L.loadA 1 (c := ?_) | refine D.seqR (h := ?_) | refine L.callQ (op13_E _ _ _ _ _ _) (k := ?_))
  refine L.callP [] (scheck_S 3 _ _ exB opsP (by unfold maxLen; decide)) (hpre := fun w hw => ⟨Rd.own (hw.holds (pB, _) mem2) (by simp) (Nat.le_refl _) 6 rfl, Rd.own (hw.holds (pO, _) mem0) (by simp) (Nat.le_refl _) 16 rfl⟩) (k := ?_)
  rintro v B ⟨x, hx, rfl, rfl⟩
  have hx := runP hx
  subst hx
  rw [hdrop_nil, List.nil_append]
  unfold shut
  repeat' (first | refine C.seq ?_ | refine C.region ?_ | refine L.nil ?_ | refine D.seq ?_ | refine L.move (k := ?_) | refine L.assign (k := ?_) | refine L.extract (c := ?_) | refine L.callQ (op13_E _ _ _ _ _ _) (k := ?_))
  refine L.callP [] example13_S (k := ?_)
  rintro v B ⟨qB, qO, rfl, rfl⟩
  rw [hdrop_nil, exO_cells, exB_cells]
  simp only [List.cons_append, List.nil_append]
  unfold progV
  repeat' (first | refine C.seq ?_ | refine C.region ?_ | refine L.nil ?_ | refine D.seq ?_ | refine L.fieldAddr (c := ?_) | refine L.loadA 1 (c := ?_) | refine L.storeV 0 (c := ?_) | refine L.storeV 1 (c := ?_) | refine L.alloc (c := fun _ => ?_) | refine D.seqR (h := ?_) | refine L.buildS (c := fun _ => ?_) | refine L.callQ (op13_E _ _ _ _ _ _) (k := ?_))
  rename_i qb qN
  refine L.callP [] (scheck_S 3 _ _ exB opsQ (by unfold maxLen; decide)) (hpre := fun w hw => ⟨Rd.own (hw.holds (qB, _) mem3) (by simp) (Nat.le_refl _) 6 rfl, Rd.own (hw.holds (qN, _) mem0) (by simp) (Nat.le_refl _) 32 rfl⟩) (k := ?_)
  rintro v B ⟨x, hx, rfl, rfl⟩
  have hx := runQ hx
  subst hx
  rw [hdrop_nil, List.nil_append]
  unfold shut
  repeat' (first | refine D.seqR (h := ?_) | refine L.extract (c := ?_) | refine L.assign (k := ?_) | refine L.move (k := ?_) | refine L.nil ?_)
  refine C.seq ?_
  refine C.base _ (M' := []) (List.append_nil _).symm (fun w1 h1 => ?_)
  have oq := Old.own (h1.holds (qb, _) mem1) (A := []) (by simp) _ List.take_length
  have rqB := Rd.own (A := []) (n := 2) (cap := 2) (h1.holds (qB, _) mem3) (by simp) (Nat.le_refl _) 6 rfl
  have rqO := Rd.own (A := []) (n := 4) (cap := 4) (h1.holds (qN, _) mem0) (by simp) (Nat.le_refl _) 32 rfl
  repeat' (first | refine C.region ?_ | refine L.callQ (op13_E _ _ _ _ _ _) (k := ?_))
  refine L.callP [] example13_S (k := ?_)
  rintro v B ⟨rB, rO, rfl, rfl⟩
  rw [hdrop_nil, exO_cells, exB_cells]
  simp only [List.cons_append, List.nil_append]
  unfold progV
  repeat' (first | refine C.seq ?_ | refine L.nil ?_ | refine L.storeV 0 (c := ?_) | refine L.alloc (c := fun _ => ?_) | refine D.seqR (h := ?_) | refine L.callQ (op13_E _ _ _ _ _ _) (k := ?_))
  rename_i rb
  refine C.make [(rB, ob [.int .i64 2, .int .i64 1, .bool true, .int .i64 2, .int .i64 2, .bool false] 33)] (by kernel_rfl) (h := ?_)
  iterate 1 ((refine QP.quiet (v := ?_) (by exact rfl) (by exact rfl) (fun w1 g1 => ?_) ?_; rotate_left); repeat (first | refine L.nil ?_ | refine L.fieldAddr (c := ?_) | exact D.endsQ | refine L.callQ (op13_E _ _ _ _ _ _) (k := ?_) | refine L.indexP (k := 1) (hi := rfl) (hk := by decide) (c := ?_)))
  (refine QP.quietI (v := ?_) [8] [(rb, ob [.int .i64 3, .slice (some ⟨rB, 0, none⟩) 2 2, .slice (some ⟨rO, 0, none⟩) 2 2] 25)] (by exact rfl) (by exact rfl) (fun w2 g2 => ?_) ?_; rotate_left); simp only [List.take_succ_cons, List.take_zero, List.take_nil, List.cons_append, List.nil_append]; repeat (first | refine L.nil ?_ | refine L.load1 0 (c := ?_) | exact D.endsQ | refine L.callQ (op13_E _ _ _ _ _ _) (k := ?_))
  have hG0 : osG 8 2 [.int .i64 14, .int .i64 0, .int .i64 (-1), .int .i64 (-1), .int .i64 (-1), .int .i64 (-1), .int .i64 0, .int .u64 0, .int .i64 14, .int .i64 1, .int .i64 (-1), .int .i64 0, .int .i64 (-1), .int .i64 (-1), .int .i64 0, .int .u64 0] (some (rO, [.int .i64 14, .int .i64 0, .int .i64 (-1), .int .i64 (-1), .int .i64 (-1), .int .i64 (-1), .int .i64 0, .int .u64 0, .int .i64 14, .int .i64 1, .int .i64 (-1), .int .i64 0, .int .i64 (-1), .int .i64 (-1), .int .i64 0, .int .u64 0], 2)) := ⟨rfl, Nat.le_refl _, by unfold maxLen; decide, rfl⟩
  (refine QP.quiet (v := ?_) (by exact rfl) (by exact rfl) (fun w2 g2 => ?_) ?_; rotate_left)
  · refine L.cutU hG0 (k := 1) (by decide) ⟨_, _, rfl, rfl⟩ (c := fun _ => ?_)
    repeat (first | refine L.nil ?_ | exact D.endsQ | refine L.callQ (op13_E _ _ _ _ _ _) (k := ?_))
  iterate 2 ((refine QP.quiet (v := ?_) (by exact rfl) (by exact rfl) (fun w1 g1 => ?_) ?_; rotate_left); repeat (first | refine L.nil ?_ | exact D.endsQ | refine L.callQ (op13_E _ _ _ _ _ _) (k := ?_) | refine L.indexP (k := 1) (hi := rfl) (hk := by decide) (c := ?_)))
  refine QP.mk0 [] (fun F B => ∃ nb2, F = [(44, .slice (some ⟨nb2, 0, none⟩) 2 2)] ∧ B = [(nb2, ob [.int .i64 2, .int .i64 1, .int .i64 (-1), .int .i64 0, .int .i64 (-1), .int .i64 (-1), .int .i64 0, .int .u64 0, .int .i64 1, .int .i64 0, .int .i64 (-1), .int .i64 (-1), .int .i64 (-1), .int .i64 (-1), .int .i64 0, .int .u64 0] 39)]) (h := fun w2 g2 => ?_) (k := ?_)
  · rw [List.nil_append]
    repeat (first | refine L.nil ?_ | refine L.buildS (c := fun _ => ?_) | refine L.callQ (op13_E _ _ _ _ _ _) (k := ?_))
    exact D.endsP1 [_] (hR := ⟨_, rfl, rfl⟩)
  refine QP.mk1 5 [(rO, ob [.int .i64 14, .int .i64 0, .int .i64 (-1), .int .i64 (-1), .int .i64 (-1), .int .i64 (-1), .int .i64 0, .int .u64 0, .int .i64 14, .int .i64 1, .int .i64 (-1), .int .i64 0, .int .i64 (-1), .int .i64 (-1), .int .i64 0, .int .u64 0] 39)] (fun F B => ∃ nb2 y', osG 8 3 (opsR.flatMap encO) y' ∧ F = [(45, osV 3 y')] ∧ B = (nb2, ob [.int .i64 2, .int .i64 1, .int .i64 (-1), .int .i64 0, .int .i64 (-1), .int .i64 (-1), .int .i64 0, .int .u64 0, .int .i64 1, .int .i64 0, .int .i64 (-1), .int .i64 (-1), .int .i64 (-1), .int .i64 (-1), .int .i64 0, .int .u64 0] 39) :: osC 39 y' []) (h := ?_) (k := ?_)
  · rintro F B ⟨nb2, rfl, rfl⟩ w2 g2
    refine L.appendU [_] (L2 := [(rB, ob [.int .i64 2, .int .i64 1, .bool true, .int .i64 2, .int .i64 2, .bool false] 33)]) (y := some (rO, [.int .i64 14, .int .i64 0, .int .i64 (-1), .int .i64 (-1), .int .i64 (-1), .int .i64 (-1), .int .i64 0, .int .u64 0, .int .i64 14, .int .i64 1, .int .i64 (-1), .int .i64 0, .int .i64 (-1), .int .i64 (-1), .int .i64 0, .int .u64 0], 2)) (m := 1) (k := 2) (cs := [.int .i64 14, .int .i64 0, .int .i64 (-1), .int .i64 (-1), .int .i64 (-1), .int .i64 (-1), .int .i64 0, .int .u64 0]) (u := .slice (some ⟨nb2, 0, none⟩) 2 2) (news := [.int .i64 2, .int .i64 1, .int .i64 (-1), .int .i64 0, .int .i64 (-1), .int .i64 (-1), .int .i64 0, .int .u64 0, .int .i64 1, .int .i64 0, .int .i64 (-1), .int .i64 (-1), .int .i64 (-1), .int .i64 (-1), .int .i64 0, .int .u64 0]) ⟨rfl, by decide, by unfold maxLen; decide, rfl⟩ rfl (fun w hw => Rd.own (hw.holds _ List.mem_cons_self) (by simp) (Nat.le_refl _) 16 rfl) rfl (ones_flat ones_O [⟨2, 1, -1, 0, -1, -1, 0, 0⟩, ⟨1, 0, -1, -1, -1, -1, 0, 0⟩]) (by unfold maxLen; decide) (by decide) (c := fun y' hG' _ => ?_)
    refine L.nil ?_
    exact D.endsP1 ((nb2, ob [.int .i64 2, .int .i64 1, .int .i64 (-1), .int .i64 0, .int .i64 (-1), .int .i64 (-1), .int .i64 0, .int .u64 0, .int .i64 1, .int .i64 0, .int .i64 (-1), .int .i64 (-1), .int .i64 (-1), .int .i64 (-1), .int .i64 0, .int .u64 0] 39) :: osC 39 y' []) (hM := by rw [osC_app 39 y' [_]]; try rfl) (hR := ⟨nb2, y', hG', rfl, rfl⟩)
  iterate 1 ((refine QP.quiet (v := ?_) (by exact rfl) (by exact rfl) (fun w1 g1 => ?_) ?_; rotate_left); repeat (first | refine L.nil ?_ | refine L.fieldAddr (c := ?_) | exact D.endsQ | refine L.callQ (op13_E _ _ _ _ _ _) (k := ?_) | refine L.indexP (k := 1) (hi := rfl) (hk := by decide) (c := ?_)))
  refine QP.mk1 6 [(rb, ob [.int .i64 3, .slice (some ⟨rB, 0, none⟩) 2 2, .slice (some ⟨rO, 0, none⟩) 2 2] 25)] (fun F B => ∃ nb2 y', osG 8 3 (opsR.flatMap encO) y' ∧ F = [] ∧ B = (rb, ob [.int .i64 3, .slice (some ⟨rB, 0, none⟩) 2 2, osV 3 y'] 25) :: (nb2, ob [.int .i64 2, .int .i64 1, .int .i64 (-1), .int .i64 0, .int .i64 (-1), .int .i64 (-1), .int .i64 0, .int .u64 0, .int .i64 1, .int .i64 0, .int .i64 (-1), .int .i64 (-1), .int .i64 (-1), .int .i64 (-1), .int .i64 0, .int .u64 0] 39) :: osC 39 y' []) (h := ?_) (k := ?_)
  · rintro F B ⟨nb2, y', hG', rfl, rfl⟩ w2 g2
    refine L.perm (M' := (rb, ob [.int .i64 3, .slice (some ⟨rB, 0, none⟩) 2 2, .slice (some ⟨rO, 0, none⟩) 2 2] 25) :: (((nb2, ob [.int .i64 2, .int .i64 1, .int .i64 (-1), .int .i64 0, .int .i64 (-1), .int .i64 (-1), .int .i64 0, .int .u64 0, .int .i64 1, .int .i64 0, .int .i64 (-1), .int .i64 (-1), .int .i64 (-1), .int .i64 (-1), .int .i64 0, .int .u64 0] 39) :: osC 39 y' []) ++ [(rB, ob [.int .i64 2, .int .i64 1, .bool true, .int .i64 2, .int .i64 2, .bool false] 33)])) List.perm_middle.symm ?_
    refine L.storeV 0 (hc := osV_cells _ _) (ho := osV_one _ _) (hl := rfl) (M' := (rb, ob [.int .i64 3, .slice (some ⟨rB, 0, none⟩) 2 2, osV 3 y'] 25) :: (((nb2, ob [.int .i64 2, .int .i64 1, .int .i64 (-1), .int .i64 0, .int .i64 (-1), .int .i64 (-1), .int .i64 0, .int .u64 0, .int .i64 1, .int .i64 0, .int .i64 (-1), .int .i64 (-1), .int .i64 (-1), .int .i64 (-1), .int .i64 0, .int .u64 0] 39) :: osC 39 y' []) ++ [(rB, ob [.int .i64 2, .int .i64 1, .bool true, .int .i64 2, .int .i64 2, .bool false] 33)])) (hM := rfl) (c := ?_)
    refine L.nil ?_
    exact D.endsP0 [] ((rb, ob [.int .i64 3, .slice (some ⟨rB, 0, none⟩) 2 2, osV 3 y'] 25) :: (nb2, ob [.int .i64 2, .int .i64 1, .int .i64 (-1), .int .i64 0, .int .i64 (-1), .int .i64 (-1), .int .i64 0, .int .u64 0, .int .i64 1, .int .i64 0, .int .i64 (-1), .int .i64 (-1), .int .i64 (-1), .int .i64 (-1), .int .i64 0, .int .u64 0] 39) :: osC 39 y' []) (hM := rfl) (hF := fun _ _ h => by cases h) (hR := ⟨nb2, y', hG', rfl, rfl⟩)
  refine QP.fin1 [none, none, none, none, none, some [], some [5], none, some [6]] 8 (nds := [[], [8], [], [], [], [], [], [], []]) (hM := List.Perm.swap _ _ _) (k := ?_)
  rintro F B ⟨nb2, y', hG', rfl, rfl⟩
  refine D.seqR (h := ?_)
  refine C.base _ (M' := []) (List.append_nil _).symm (fun w2 h2 => ?_)
  have or_ := Old.own (h2.holds (rb, ob [.int .i64 3, .slice (some ⟨rB, 0, none⟩) 2 2, osV 3 y'] 25) (by simp)) (A := []) (by simp) _ List.take_length
  have rrB := Rd.own (A := []) (n := 2) (cap := 2) (h2.holds (rB, ob [.int .i64 2, .int .i64 1, .bool true, .int .i64 2, .int .i64 2, .bool false] 33) (by simp)) (by simp) (Nat.le_refl _) 6 rfl
  have rrO := hG'.rdm (T := 39) h2 (fun x hx => by simp [hx])
  have oq2 := oq.at h2
  have rqB2 := rqB.at h2
  have rqO2 := rqO.at h2
  clear oq rqB rqO
  repeat' (first | refine C.seq ?_ | refine C.region ?_ | refine L.callQ (op13_E _ _ _ _ _ _) (k := ?_))
  refine L.callP [] example13_S (k := ?_)
  rintro v B ⟨sB, sO, rfl, rfl⟩
  rw [hdrop_nil, exO_cells, exB_cells]
  simp only [List.cons_append, List.nil_append]
  unfold progV
  repeat' (first | refine C.seq ?_ | refine C.region ?_ | refine L.nil ?_ | refine D.seq ?_ | refine L.fieldAddr (c := ?_) | refine L.loadA 1 (c := ?_) | refine L.storeV 0 (c := ?_) | refine L.storeV 1 (c := ?_) | refine L.alloc (c := fun _ => ?_) | refine D.seqR (h := ?_) | refine L.buildS (c := fun _ => ?_) | refine L.callQ (op13_E _ _ _ _ _ _) (k := ?_))
  rename_i sb sN
  refine L.callP [] (scheck_S 3 _ _ exB opsS (by unfold maxLen; decide)) (hpre := fun w hw => ⟨Rd.own (hw.holds (sB, _) mem3) (by simp) (Nat.le_refl _) 6 rfl, Rd.own (hw.holds (sN, _) mem0) (by simp) (Nat.le_refl _) 24 rfl⟩) (k := ?_)
  rintro v B ⟨x, hx, rfl, rfl⟩
  have hx := runS hx
  subst hx
  rw [hdrop_nil, List.nil_append]
  unfold shut
  repeat' (first | refine C.seq ?_ | refine C.region ?_ | refine L.nil ?_ | refine D.seq ?_ | refine L.move (k := ?_) | refine L.assign (k := ?_) | refine L.cm (c := ?_) | refine L.extract (c := ?_) | refine L.pickT (k := ?_) | refine L.want (k := ?_) | refine L.buildS (c := fun _ => ?_) | refine L.callQ (op13_E _ _ _ _ _ _) (k := ?_) | refine L.loadOA or_ (i := 0) (ho := rfl) (hi := Nat.le_refl 3) (hcs := rfl) (c := ?_))
  rename_i a1 a2 a3 b1 b2 b3 c1 c2 c3
  refine L.base _ (M' := []) (List.append_nil _).symm (fun w3 h3 => ?_)
  have A1 := Rd.own (A := []) (n := 2) (cap := 2) (h3.holds (a1, _) (List.mem_cons_of_mem _ (List.mem_cons_of_mem _ (List.mem_cons_of_mem _ (List.mem_cons_of_mem _ mem4))))) (by simp) (Nat.le_refl _) 2 rfl
  have A2 := Rd.own (A := []) (n := 2) (cap := 2) (h3.holds (a2, _) (List.mem_cons_of_mem _ (List.mem_cons_of_mem _ (List.mem_cons_of_mem _ mem4)))) (by simp) (Nat.le_refl _) 2 rfl
  have A3 := Rd.own (A := []) (n := 2) (cap := 2) (h3.holds (a3, _) (List.mem_cons_of_mem _ (List.mem_cons_of_mem _ mem4))) (by simp) (Nat.le_refl _) 2 rfl
  have B1 := Rd.own (A := []) (n := 2) (cap := 2) (h3.holds (b1, _) (List.mem_cons_of_mem _ mem4)) (by simp) (Nat.le_refl _) 2 rfl
  have B2 := Rd.own (A := []) (n := 2) (cap := 2) (h3.holds (b2, _) mem4) (by simp) (Nat.le_refl _) 2 rfl
  have B3 := Rd.own (A := []) (n := 2) (cap := 2) (h3.holds (b3, _) mem3) (by simp) (Nat.le_refl _) 2 rfl
  have C1 := Rd.own (A := []) (n := 2) (cap := 2) (h3.holds (c1, _) mem2) (by simp) (Nat.le_refl _) 2 rfl
  have C2 := Rd.own (A := []) (n := 2) (cap := 2) (h3.holds (c2, _) mem1) (by simp) (Nat.le_refl _) 2 rfl
  have C3 := Rd.own (A := []) (n := 2) (cap := 2) (h3.holds (c3, _) mem0) (by simp) (Nat.le_refl _) 2 rfl
  have one : RdR w3 [] (.slice (some ⟨a3, 0, none⟩) 2 2) [(.slice (some ⟨a1, 0, none⟩) 2 2, [1, 2]), (.slice (some ⟨a2, 0, none⟩) 2 2, [3, 4])] := ⟨A3, fun r hr => by simp at hr; rcases hr with rfl | rfl; exact A1; exact A2⟩
  have two : RdR w3 [] (.slice (some ⟨b3, 0, none⟩) 2 2) [(.slice (some ⟨b1, 0, none⟩) 2 2, [9, 9]), (.slice (some ⟨b2, 0, none⟩) 2 2, [3, 4])] := ⟨B3, fun r hr => by simp at hr; rcases hr with rfl | rfl; exact B1; exact B2⟩
  have three : RdR w3 [] (.slice (some ⟨c3, 0, none⟩) 2 2) [(.slice (some ⟨c1, 0, none⟩) 2 2, [1, 2]), (.slice (some ⟨c2, 0, none⟩) 2 2, [3, 5])] := ⟨C3, fun r hr => by simp at hr; rcases hr with rfl | rfl; exact C1; exact C2⟩
  have none3 : RdR w3 [] (.slice none 0 0) [] := ⟨Rd.nil, fun r hr => by cases hr⟩
  clear A1 A2 A3 B1 B2 B3 C1 C2 C3
  have oq3 := oq2.at h3
  have rqB3 := rqB2.at h3
  have rqO3 := rqO2.at h3
  have rrB3 := rrB.at h3
  have rrO3 := rrO.at h3
  refine L.callP [] (Secret_S 3 _ _ exB opsR (by unfold maxLen; decide)) (hpre := fun w hw => ⟨rrB3.at hw, rrO3.at hw⟩) (k := ?_)
  rintro v B ⟨l, yl, hl, hGl, rfl, rfl⟩
  have hl := secR hl
  subst hl
  rw [hdrop_nil]
  unfold shut
  repeat' (first | refine L.want (k := ?_) | refine L.buildS (c := fun _ => ?_) | refine L.callQ (op13_E _ _ _ _ _ _) (k := ?_))
  rename_i tb
  refine L.callQ (sameB_S (osV 3 yl) (.slice (some ⟨tb, 0, none⟩) 3 3) [true, true, false] [true, true, false] (by decide)) (hpre := fun w hw => ⟨hGl.rdm (T := 4) hw (fun x hx => by simp [hx]), Rd.own (hw.holds (tb, _) List.mem_cons_self) (by simp) (Nat.le_refl _) 3 rfl⟩) (k := ?_)
  rw [show decide ([true, true, false] = [true, true, false]) = true from rfl]
  have p1 := public_S 3 (.slice (some ⟨qB, 0, none⟩) 2 2) (.slice (some ⟨qN, 0, none⟩) 4 4) (.slice (some ⟨a3, 0, none⟩) 2 2) (.slice (some ⟨b3, 0, none⟩) 2 2) exB opsQ [(.slice (some ⟨a1, 0, none⟩) 2 2, [1, 2]), (.slice (some ⟨a2, 0, none⟩) 2 2, [3, 4])] [(.slice (some ⟨b1, 0, none⟩) 2 2, [9, 9]), (.slice (some ⟨b2, 0, none⟩) 2 2, [3, 4])] (by decide) (by intro r hr; simp at hr; rcases hr with rfl | rfl <;> (show 2 ≤ 1000000; decide))
  have p2 := public_S 3 (.slice (some ⟨qB, 0, none⟩) 2 2) (.slice (some ⟨qN, 0, none⟩) 4 4) (.slice (some ⟨a3, 0, none⟩) 2 2) (.slice (some ⟨c3, 0, none⟩) 2 2) exB opsQ [(.slice (some ⟨a1, 0, none⟩) 2 2, [1, 2]), (.slice (some ⟨a2, 0, none⟩) 2 2, [3, 4])] [(.slice (some ⟨c1, 0, none⟩) 2 2, [1, 2]), (.slice (some ⟨c2, 0, none⟩) 2 2, [3, 5])] (by decide) (by intro r hr; simp at hr; rcases hr with rfl | rfl <;> (show 2 ≤ 1000000; decide))
  have p3 := public_S 3 (.slice (some ⟨qB, 0, none⟩) 2 2) (.slice (some ⟨qN, 0, none⟩) 4 4) (.slice (some ⟨a3, 0, none⟩) 2 2) (.slice none 0 0) exB opsQ [(.slice (some ⟨a1, 0, none⟩) 2 2, [1, 2]), (.slice (some ⟨a2, 0, none⟩) 2 2, [3, 4])] [] (by decide) (by intro r hr; simp at hr; rcases hr with rfl | rfl <;> (show 2 ≤ 1000000; decide))
  rw [pub1] at p1
  rw [pub2] at p2
  rw [pub3] at p3
  repeat' (first | refine L.move (k := ?_) | refine L.cm (c := ?_) | refine L.build (c := ?_) | refine L.pickT (k := ?_) | refine L.want (k := ?_) | refine L.not (c := ?_) | refine L.callQ (op13_E _ _ _ _ _ _) (k := ?_) | refine L.loadOA oq3 (i := 0) (ho := rfl) (hi := Nat.le_refl 3) (hcs := rfl) (c := ?_) | refine L.callQ p1 (hpre := fun w hw => ⟨⟨rqB3.at hw, rqO3.at hw⟩, one.at hw, two.at hw⟩) (k := ?_) | refine L.callQ p2 (hpre := fun w hw => ⟨⟨rqB3.at hw, rqO3.at hw⟩, one.at hw, three.at hw⟩) (k := ?_) | refine L.callQ p3 (hpre := fun w hw => ⟨⟨rqB3.at hw, rqO3.at hw⟩, one.at hw, none3.at hw⟩) (k := ?_))
  refine L.callP [] (Secret_S (-1) (.slice none 0 0) (.slice none 0 0) [] [] (by unfold maxLen; decide)) (hpre := fun w hw => ⟨Rd.nil, Rd.nil⟩) (k := ?_)
  rintro v B ⟨l, ym, hl, hGm, rfl, rfl⟩
  have hl := secN hl
  subst hl
  rw [hdrop_nil]
  unfold shut
  repeat' (first | refine L.nil ?_ | refine L.assign (k := ?_) | refine L.cm (c := ?_) | refine L.pickT (k := ?_) | refine L.want (k := ?_) | refine C.ret ?_ | refine D.seqR (h := ?_) | refine L.callQ (op13_E _ _ _ _ _ _) (k := ?_) | refine L.lenR hGm.sl (c := ?_))
  refine D.ret (vs := [_]) (RV.tmp rfl RV.nil) ?_
  intro w' hw
  exact Post.mk (is := []) (At.back h1.nilr (At.back h2.nilr (At.back h3.nilr hw))) List.nodup_nil rfl ⟨rfl, rfl⟩
end Go.Proofs.Ytkjlgapkcdcmgaa
