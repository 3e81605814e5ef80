/- LimbNames: the walk. -/
import Derived.Test.YtkjlgapkcdcmgaaLpB
import Derived.Test.YtkjlgapkcdcmgaaSepF
import Derived.Test.YtkjlgapkcdcmgaaFin
set_option linter.unusedVariables false
set_option linter.unusedSimpArgs false
namespace Go.Proofs.Ytkjlgapkcdcmgaa
open Go Go.RowKit SL
theorem forget_L {P : Program} {ops : Array Oper} {Q : Exit → Act → World → Prop} {s : St} {E : Env} {M : Hp} {rest : List Oper} (E' : Env) (h : ∀ i v, lk E' i = some v → lk E i = some v) (k : L P ops Q rest s E' M) : L P ops Q rest s E M := fun a w hs => k a w ⟨hs.at_, hs.defers, hs.size, fun i v hi => hs.env i v (h i v hi)⟩
theorem SL.L.bas {P : Program} {ops : Array Oper} {Q : Exit → Act → World → Prop} {w0 : World} {A : List Nat} {n : Nat} {ro : Option Nat} {dl : List Deferred} {E : Env} {M : Hp} {rest : List Oper} (k : ∀ w1, At w0 A M w1 → L P ops Q rest { w0 := w1, A := keys [], n := n, ro := ro, dl := dl } E []) : L P ops Q rest { w0 := w0, A := A, n := n, ro := ro, dl := dl } E M :=
  L.base M (M' := []) (List.append_nil M).symm k
theorem SL.C.bas {P : Program} {c : Code} {Q : Exit → Act → World → Prop} {w0 : World} {A : List Nat} {n : Nat} {ro : Option Nat} {dl : List Deferred} {E : Env} {M : Hp} (k : ∀ w1, At w0 A M w1 → C P c Q { w0 := w1, A := keys [], n := n, ro := ro, dl := dl } E []) : C P c Q { w0 := w0, A := A, n := n, ro := ro, dl := dl } E M :=
  C.base M (M' := []) (List.append_nil M).symm k
attribute [local irreducible] SL.L SL.C SL.D SL.N SL.H SL.QL SL.QW SL.QP

theorem nmNest_succ (i : Nat) : (nmNest (i + 1)).flatMap encO = (nmNest i).flatMap encO ++ encO (lpO 16 (i : Int) (-1) (-1) (-1) (-1) 0 1048576) := by
  unfold nmNest; rw [List.range_succ]; simp
theorem nmNest_len (i : Nat) : (nmNest i).length = i := by unfold nmNest; simp
theorem nmDeep_succ (i : Nat) : (nmDeep (i + 1)).flatMap encO = (nmDeep i).flatMap encO ++ encO endO := by
  unfold nmDeep
  rw [List.flatMap_append, List.flatMap_append, List.replicate_succ']
  simp
theorem nmDeep_len (i : Nat) : (nmDeep i).length = 8 + i := by unfold nmDeep; rw [List.length_append, nmNest_len]; simp
theorem SL.L.forget {P : Program} {ops : Array Oper} {Q : Exit → Act → World → Prop} {s : St} {E : Env} {M : Hp} {rest : List Oper} (E' : Env) (h : ∀ i v, lk E' i = some v → lk E i = some v) (k : L P ops Q rest s E' M) : L P ops Q rest s E M := forget_L E' h k
theorem run_readX {regs : Int} {bs : List Bf} {os : List Lop} {rs : Rws} {u : Value} {B : Hp} {X : Int × List (List Int) × List Ev} (hX : outR regs bs os rs = X) (hu : lrunR regs bs os rs u B) :
    ∃ (yv mv : Value) (ry : Rws), u = shut [yv, mv, .int .i64 X.1] ∧ ry.map (·.2) = X.2.1 ∧ (∀ r ∈ ry, RngR r.2) ∧
      ∀ (w0 w : World) (A : List Nat) (M : Hp), At w0 A M w → (∀ b ∈ B, b ∈ M) → RdR w [] yv ry ∧ Rd w [] mv X.2.2.length (X.2.2.flatMap encE) := by
  subst hX; exact run_read hu
theorem w_all {os : List Lop} (h : os.all (fun o => decide (0 ≤ o.imm ∧ o.imm < 18446744073709551616)) = true) : ∀ o ∈ os, W64 o.imm := fun o ho => by
  have := List.all_eq_true.1 h o ho
  simpa [W64] using this
theorem rng_z : ∀ r ∈ ([0, 0] : List Int), W64 r := by intro r hr; simp at hr; subst hr; exact ⟨by decide, by decide⟩
set_option maxRecDepth 100000 in
set_option maxHeartbeats 64000000 in
theorem namesLaw_S : Ctr Try.prog 11 [] [] tt (is (.bool true) []) := by
  refine Ctr.enter Try.func11 Try.ntmps11 rfl rfl (fun w _ => ?_)
  have bk : ∀ M2 w', At w (keys []) M2 w' → At w [] M2 w' := fun _ _ h => h
  repeat' (first | refine C.seq ?_ | refine C.region ?_ | refine L.nil ?_ | refine D.seq ?_ | refine L.assign (k := ?_) | refine C.no (h1 := ?_) | refine L.not (c := ?_) | refine C.skip ?_ | refine L.callQ (lives12_S) (k := ?_))
  refine L.callP [] (example12_S) (k := ?_)
  rintro u B ⟨b1, b2, rfl, rfl⟩
  rw [hdrop_nil]
  try unfold shut
  try unfold progV
  simp only [List.cons_append, List.nil_append]
  repeat' (first | refine C.seq ?_ | refine C.region ?_ | refine L.nil ?_ | refine D.seq ?_ | refine L.fieldAddr (c := ?_) | refine L.storeV 0 (c := ?_) | refine L.alloc (c := fun _ => ?_) | refine D.seqR (h := ?_))
  rename_i p1
  refine L.bas (fun w1 h1 => ?_)
  have o1 : Old w1 [] p1 0 [.int .i64 65, .slice (some ⟨b1, 0, none⟩) 1 1, .slice (some ⟨b2, 0, none⟩) 3 3] := Old.own (h1.holds _ mem0) (by simp) 3 rfl
  have rb1 : Rd w1 [] (.slice (some ⟨b1, 0, none⟩) 1 1) 1 (xB.flatMap encB) := Rd.own (h1.holds _ mem2) (by simp) (Nat.le_refl _) 3 rfl
  have ro1 : Rd w1 [] (.slice (some ⟨b2, 0, none⟩) 3 3) 3 (xO.flatMap encO) := Rd.own (h1.holds _ mem1) (by simp) (Nat.le_refl _) 24 rfl
  replace bk : ∀ M2 w', At w1 (keys []) M2 w' → At w [] M2 w' := fun M2 w' hw => bk M2 w' (At.back (at_nilr h1) hw)
  refine L.callP [] (example12_S) (k := ?_)
  rintro u B ⟨b3, b4, rfl, rfl⟩
  rw [hdrop_nil]
  try unfold shut
  try unfold progV
  simp only [List.cons_append, List.nil_append]
  repeat' (first | refine C.seq ?_ | refine C.region ?_ | refine L.nil ?_ | refine D.seq ?_ | refine L.fieldAddr (c := ?_) | refine L.load1 0 (c := ?_) | refine L.storeV 0 (c := ?_) | refine L.storeV 2 (c := ?_) | refine L.alloc (c := fun _ => ?_) | refine D.seqR (h := ?_) | refine L.buildS (c := fun _ => ?_) | refine L.indexR (SlV.mk b3 0 (Nat.le_refl 1)) (k := 0) (by decide) (c := ?_) | refine L.callQ (op12_S _ _ _ _ _ _ _) (k := ?_) | refine L.callQ end12_S (k := ?_))
  rename_i p2 n3
  refine L.bas (fun w2 h2 => ?_)
  have hnm : Rd w2 [] (.slice (some ⟨n3, 0, none⟩) 3 3) 3 (nmMade.flatMap encO) := Rd.own (h2.holds _ mem0) (by simp) (Nat.le_refl _) 24 rfl
  have o2 : Old w2 [] p2 0 [.int .i64 2, .slice (some ⟨b3, 0, none⟩) 1 1, .slice (some ⟨b4, 0, none⟩) 3 3] := Old.own (h2.holds _ mem1) (by simp) 3 rfl
  have rb2 : Rd w2 [] (.slice (some ⟨b3, 0, none⟩) 1 1) 1 (nmB1.flatMap encB) := Rd.own (h2.holds _ mem3) (by simp) (Nat.le_refl _) 3 rfl
  have ro2 : Rd w2 [] (.slice (some ⟨b4, 0, none⟩) 3 3) 3 (xO.flatMap encO) := Rd.own (h2.holds _ mem2) (by simp) (Nat.le_refl _) 24 rfl
  replace o1 := o1.at h2
  replace rb1 := rb1.at h2
  replace ro1 := ro1.at h2
  replace bk : ∀ M2 w', At w2 (keys []) M2 w' → At w [] M2 w' := fun M2 w' hw => bk M2 w' (At.back (at_nilr h2) hw)
  refine L.callP [] (with_S (.slice (some ⟨n3, 0, none⟩) 3 3) nmMade (by decide)) (hpre := fun w hw => hnm.at hw) (k := ?_)
  rintro u B ⟨b5, y3, rfl, g3, rfl⟩
  rw [hdrop_nil]
  try unfold shut
  try unfold progV
  repeat' (first | refine L.alloc (c := fun _ => ?_))
  rename_i p3
  refine L.storeV 0 (vs := [.int .i64 2, .slice (some ⟨b5, 0, none⟩) 1 1, osV (xO ++ nmMade).length y3]) (ho := by simp only [List.all_cons, List.all_nil, oneB_os, Bool.and_true]; rfl) (hl := rfl) (M' := (p3, ob [.int .i64 2, .slice (some ⟨b5, 0, none⟩) 1 1, osV (xO ++ nmMade).length y3] 25) :: ((b5, ob (xB.flatMap encB) 33) :: osC 39 y3 [] ++ [])) (hM := rfl) (c := ?_)
  refine L.nil ?_
  refine D.seqR (h := ?_)
  refine C.bas (fun w3 h3 => ?_)
  have o3 : Old w3 [] p3 0 [.int .i64 2, .slice (some ⟨b5, 0, none⟩) 1 1, osV (xO ++ nmMade).length y3] := Old.own (h3.holds (p3, ob [.int .i64 2, .slice (some ⟨b5, 0, none⟩) 1 1, osV (xO ++ nmMade).length y3] 25) (by simp)) (by simp) 3 rfl
  have rb3 : Rd w3 [] (.slice (some ⟨b5, 0, none⟩) 1 1) 1 (xB.flatMap encB) := Rd.own (h3.holds (b5, ob (xB.flatMap encB) 33) (by simp)) (by simp) (Nat.le_refl _) 3 rfl
  have ro3 := g3.rdm (T := 39) h3 (fun x hx => by simp [hx])
  replace o1 := o1.at h3
  replace rb1 := rb1.at h3
  replace ro1 := ro1.at h3
  replace o2 := o2.at h3
  replace rb2 := rb2.at h3
  replace ro2 := ro2.at h3
  replace bk : ∀ M2 w', At w3 (keys []) M2 w' → At w [] M2 w' := fun M2 w' hw => bk M2 w' (At.back (at_nilr h3) hw)
  repeat' (first | refine C.seq ?_ | refine C.region ?_ | refine L.buildS (c := fun _ => ?_) | refine L.callQ (op12_S _ _ _ _ _ _ _) (k := ?_) | refine L.callQ end12_S (k := ?_))
  rename_i n4
  refine L.bas (fun w4 h4 => ?_)
  have hnm : Rd w4 [] (.slice (some ⟨n4, 0, none⟩) 3 3) 3 (nmOwn.flatMap encO) := Rd.own (h4.holds _ mem0) (by simp) (Nat.le_refl _) 24 rfl
  replace o1 := o1.at h4
  replace rb1 := rb1.at h4
  replace ro1 := ro1.at h4
  replace o2 := o2.at h4
  replace rb2 := rb2.at h4
  replace ro2 := ro2.at h4
  replace o3 := o3.at h4
  replace rb3 := rb3.at h4
  replace ro3 := ro3.at h4
  replace bk : ∀ M2 w', At w4 (keys []) M2 w' → At w [] M2 w' := fun M2 w' hw => bk M2 w' (At.back (at_nilr h4) hw)
  refine L.callP [] (with_S (.slice (some ⟨n4, 0, none⟩) 3 3) nmOwn (by decide)) (hpre := fun w hw => hnm.at hw) (k := ?_)
  rintro u B ⟨b6, y4, rfl, g4, rfl⟩
  rw [hdrop_nil]
  try unfold shut
  try unfold progV
  repeat' (first | refine L.alloc (c := fun _ => ?_))
  rename_i p4
  refine L.storeV 0 (vs := [.int .i64 2, .slice (some ⟨b6, 0, none⟩) 1 1, osV (xO ++ nmOwn).length y4]) (ho := by simp only [List.all_cons, List.all_nil, oneB_os, Bool.and_true]; rfl) (hl := rfl) (M' := (p4, ob [.int .i64 2, .slice (some ⟨b6, 0, none⟩) 1 1, osV (xO ++ nmOwn).length y4] 25) :: ((b6, ob (xB.flatMap encB) 33) :: osC 39 y4 [] ++ [])) (hM := rfl) (c := ?_)
  refine L.nil ?_
  refine D.seqR (h := ?_)
  refine C.bas (fun w5 h5 => ?_)
  have o4 : Old w5 [] p4 0 [.int .i64 2, .slice (some ⟨b6, 0, none⟩) 1 1, osV (xO ++ nmOwn).length y4] := Old.own (h5.holds (p4, ob [.int .i64 2, .slice (some ⟨b6, 0, none⟩) 1 1, osV (xO ++ nmOwn).length y4] 25) (by simp)) (by simp) 3 rfl
  have rb4 : Rd w5 [] (.slice (some ⟨b6, 0, none⟩) 1 1) 1 (xB.flatMap encB) := Rd.own (h5.holds (b6, ob (xB.flatMap encB) 33) (by simp)) (by simp) (Nat.le_refl _) 3 rfl
  have ro4 := g4.rdm (T := 39) h5 (fun x hx => by simp [hx])
  replace o1 := o1.at h5
  replace rb1 := rb1.at h5
  replace ro1 := ro1.at h5
  replace o2 := o2.at h5
  replace rb2 := rb2.at h5
  replace ro2 := ro2.at h5
  replace o3 := o3.at h5
  replace rb3 := rb3.at h5
  replace ro3 := ro3.at h5
  replace bk : ∀ M2 w', At w5 (keys []) M2 w' → At w [] M2 w' := fun M2 w' hw => bk M2 w' (At.back (at_nilr h5) hw)
  repeat' (first | refine C.seq ?_ | refine C.region ?_ | refine L.nil ?_ | refine D.seq ?_ | refine L.assign (k := ?_) | refine L.storeV 0 (c := ?_) | refine L.build (c := ?_) | refine L.alloc (c := fun _ => ?_) | refine C.block ?_ | refine L.callQ (op12_S _ _ _ _ _ _ _) (k := ?_) | refine L.callQ end12_S (k := ?_))
  rename_i p5
  refine C.loop (α := Nat × OS) (fun x => x.1 ≤ 9 ∧ osG 8 x.1 ((nmNest x.1).flatMap encO) x.2) (fun x => [(1, .pointer (some ⟨p1, 0, none⟩)), (2, .pointer (some ⟨p2, 0, none⟩)), (3, .pointer (some ⟨p3, 0, none⟩)), (4, .pointer (some ⟨p4, 0, none⟩)), (5, .pointer (some ⟨p5, 0, none⟩)), (6, .int .i64 x.1)]) (fun x => (p5, ob [.int .i64 9, .slice none 0 0, osV x.1 x.2] 25) :: osC 39 x.2 []) (fun x => 9 - x.1) (0, none)
    (fun a w hs => hs.lessE rfl (lk_cons rfl (lk_cons rfl (lk_cons rfl (lk_cons rfl (lk_cons rfl (lk_cons rfl (fun _ _ h => lk_nil h)))))))) ⟨Nat.zero_le _, osG.nil⟩ ?_
  rintro ⟨i, y⟩ ⟨hi, hG⟩
  simp only at hi hG ⊢
  rcases Nat.lt_or_ge i 9 with hlt | hge
  · have k1 : cm .lss (i : Int) 9 = true := cm_lo (by omega)
    have k2 : ar .add .i64 (i : Int) 1 = ((i + 1 : Nat) : Int) := wrap_nat (by omega)
    repeat' (first | refine C.make [] (by kernel_rfl) (h := ?_) | refine C.seq ?_ | refine C.region ?_ | refine L.nil ?_ | refine D.seq ?_ | refine L.move (k := ?_) | refine L.cm (c := ?_) | refine C.yes (h1 := ?_) | refine C.block ?_ | refine C.skip ?_)
    (refine QP.quiet (v := ?_) (by exact rfl) (by exact rfl) (fun w4 g4 => ?_) ?_; rotate_left); repeat (first | refine L.nil ?_ | refine L.fieldAddr (c := ?_) | exact D.endsQ | refine L.callQ (op12_S _ _ _ _ _ _ _) (k := ?_) | exact D.endsQ)
    (refine QP.quietI (v := ?_) [7] [(p5, ob [.int .i64 9, .slice none 0 0, osV i y] 25)] (by exact rfl) (by exact rfl) (fun w4 g4 => ?_) ?_; rotate_left); simp only [List.take_succ_cons, List.take_zero, List.take_nil, List.cons_append, List.nil_append]; repeat (first | refine L.nil ?_ | refine L.load1 0 (c := ?_) | exact D.endsQ | exact D.endsQ)
    iterate 2 ((refine QP.quiet (v := ?_) (by exact rfl) (by exact rfl) (fun w4 g4 => ?_) ?_; rotate_left); repeat (first | refine L.nil ?_ | refine L.move (k := ?_) | exact D.endsQ | refine L.callQ (op12_S _ _ _ _ _ _ _) (k := ?_) | exact D.endsQ))
    refine QP.mk0 [] (fun F B => ∃ nb, F = [(52, .slice (some ⟨nb, 0, none⟩) 1 1)] ∧ B = [(nb, ob (encO (lpO 16 (i : Int) (-1) (-1) (-1) (-1) 0 1048576)) 39)]) (h := fun w4 g4 => ?_) (k := ?_)
    · rw [List.nil_append]
      repeat (first | refine L.nil ?_ | refine L.buildS (c := fun _ => ?_))
      exact D.endsP1 [_] (hR := ⟨_, rfl, rfl⟩)
    refine QP.mk1 4 (osC 39 y []) (fun F B => ∃ nb y', osG 8 (i + 1) ((nmNest i).flatMap encO ++ encO (lpO 16 (i : Int) (-1) (-1) (-1) (-1) 0 1048576)) y' ∧ F = [(53, osV (i + 1) y')] ∧ B = (nb, ob (encO (lpO 16 (i : Int) (-1) (-1) (-1) (-1) 0 1048576)) 39) :: osC 39 y' []) (h := ?_) (k := ?_)
    · rintro F B ⟨nb, rfl, rfl⟩ w4 g4
      refine L.appendU [(nb, ob (encO (lpO 16 (i : Int) (-1) (-1) (-1) (-1) 0 1048576)) 39)] (L2 := []) (y := y) (m := i) (u := .slice (some ⟨nb, 0, none⟩) 1 1) (k := 1) (news := encO (lpO 16 (i : Int) (-1) (-1) (-1) (-1) 0 1048576)) hG (by simp) (fun w hw => Rd.own (hw.holds _ List.mem_cons_self) (by simp) (Nat.le_refl _) 8 rfl) rfl (ones_O _) (by unfold maxLen; omega) (by omega) (c := fun y' hG' _ => ?_)
      refine L.nil ?_
      exact D.endsP1 ((nb, ob (encO (lpO 16 (i : Int) (-1) (-1) (-1) (-1) 0 1048576)) 39) :: osC 39 y' []) (hM := by rw [List.append_nil]; rfl) (hR := ⟨nb, y', hG', rfl, rfl⟩)
    (refine QP.quiet (v := ?_) (by exact rfl) (by exact rfl) (fun w4 g4 => ?_) ?_; rotate_left); repeat (first | refine L.nil ?_ | refine L.fieldAddr (c := ?_) | exact D.endsQ | refine L.callQ (op12_S _ _ _ _ _ _ _) (k := ?_) | exact D.endsQ)
    refine QP.mk1 5 [(p5, ob [.int .i64 9, .slice none 0 0, osV i y] 25)] (fun F B => ∃ nb y', osG 8 (i + 1) ((nmNest i).flatMap encO ++ encO (lpO 16 (i : Int) (-1) (-1) (-1) (-1) 0 1048576)) y' ∧ F = [] ∧ B = (nb, ob (encO (lpO 16 (i : Int) (-1) (-1) (-1) (-1) 0 1048576)) 39) :: (p5, ob [.int .i64 9, .slice none 0 0, osV (i + 1) y'] 25) :: osC 39 y' []) (h := ?_) (k := ?_)
    · rintro F B ⟨nb, y1, hG1, rfl, rfl⟩ w4 g4
      refine L.perm (M' := (nb, ob (encO (lpO 16 (i : Int) (-1) (-1) (-1) (-1) 0 1048576)) 39) :: (p5, ob [.int .i64 9, .slice none 0 0, osV i y] 25) :: osC 39 y1 []) (by show List.Perm _ ((nb, ob (encO (lpO 16 (i : Int) (-1) (-1) (-1) (-1) 0 1048576)) 39) :: (osC 39 y1 [] ++ [(p5, ob [.int .i64 9, .slice none 0 0, osV i y] 25)])); exact List.Perm.cons _ (List.perm_append_singleton _ _).symm) ?_
      refine L.storeV 1 (hc := osV_cells _ _) (ho := osV_one _ _) (hl := rfl) (hM := rfl) (c := ?_)
      refine L.nil ?_
      exact D.endsP0 [] ((nb, ob (encO (lpO 16 (i : Int) (-1) (-1) (-1) (-1) 0 1048576)) 39) :: (p5, ob [.int .i64 9, .slice none 0 0, osV (i + 1) y1] 25) :: osC 39 y1 []) (hM := by rw [List.append_nil]; rfl) (hF := fun _ _ h => by cases h) (hR := ⟨nb, y1, hG1, rfl, rfl⟩)
    refine QP.fin1 [none, none, none, none, some [], some [4], none, some [5]] 7 (nds := [[], [7], [], [], [], [], [], []]) (hM := by simp only [List.reverse_cons, List.reverse_nil, List.nil_append, List.cons_append, List.flatMap_cons, List.flatMap_nil, Pl.ini, List.append_nil]; exact (List.perm_append_singleton _ _).symm) (k := ?_)
    rintro F B ⟨nb, y1, hG1, rfl, rfl⟩
    rw [List.nil_append, List.append_nil]
    rw [← nmNest_succ] at hG1
    repeat' (first | refine C.region ?_ | refine L.nil ?_ | refine D.seq ?_ | refine L.move (k := ?_) | refine L.assign (k := ?_) | refine L.ar (c := ?_) | refine D.blkNormal ?_)
    exact D.then_ fun a1 w4 hs => ⟨(i + 1, y1), ⟨hlt, hG1⟩, by simp only; omega, hs.lessD 1 rfl (lk_cons rfl (lk_cons rfl (lk_cons rfl (lk_cons rfl (lk_cons rfl (lk_cons rfl (fun _ _ h => lk_nil h)))))))⟩
  have hi9 : i = 9 := by omega
  subst hi9
  have k1 : cm .lss ((9 : Nat) : Int) 9 = false := rfl
  refine C.bas (fun w6 h6 => ?_)
  have o5 : Old w6 [] p5 0 [.int .i64 9, .slice none 0 0, osV 9 y] := Old.own (h6.holds (p5, ob [.int .i64 9, .slice none 0 0, osV 9 y] 25) (by simp)) (by simp) 3 rfl
  have ro5 := hG.rdm (T := 39) h6 (fun x hx => by simp [hx])
  replace o1 := o1.at h6
  replace rb1 := rb1.at h6
  replace ro1 := ro1.at h6
  replace o2 := o2.at h6
  replace rb2 := rb2.at h6
  replace ro2 := ro2.at h6
  replace o3 := o3.at h6
  replace rb3 := rb3.at h6
  replace ro3 := ro3.at h6
  replace o4 := o4.at h6
  replace rb4 := rb4.at h6
  replace ro4 := ro4.at h6
  replace bk : ∀ M2 w', At w6 (keys []) M2 w' → At w [] M2 w' := fun M2 w' hw => bk M2 w' (At.back (at_nilr h6) hw)
  repeat' (first | refine C.seq ?_ | refine C.region ?_ | refine L.nil ?_ | refine D.seq ?_ | refine L.move (k := ?_) | refine L.cm (c := ?_) | refine L.alloc (c := fun _ => ?_) | refine C.no (h1 := ?_) | refine C.exit ?_ | refine D.thenExit ?_ | refine D.blkExit ?_ | refine D.seqR (h := ?_) | refine L.loadOA o5 (i := 0) (ho := rfl) (hi := Nat.le_refl 3) (hcs := rfl) (c := ?_) | refine L.loadF o5 (i := 2) rfl (c := ?_))
  rename_i p7
  refine L.storeV 0 (vs := [.int .i64 9, .slice none 0 0, osV 9 y]) (ho := by simp only [List.all_cons, List.all_nil, oneB_os, Bool.and_true]; rfl) (hl := rfl) (M' := [(p7, ob [.int .i64 9, .slice none 0 0, osV 9 y] 25)]) (hM := rfl) (c := ?_)
  repeat' (first | refine C.seq ?_ | refine C.region ?_ | refine L.nil ?_ | refine D.seq ?_ | refine L.fieldAddr (c := ?_) | refine L.loadF o5 (i := 2) rfl (c := ?_))
  refine L.sliceR ro5.1 (lo := 0) (hi := 8) (by decide) (by decide) (hy := .inl ⟨rfl, rfl⟩) (hz := .inr ⟨_, _, rfl, rfl⟩) (c := fun v8 sv8 hv8 => ?_)
  have r8 : Rd w6 [] v8 8 ((nmNest 8).flatMap encO) := Rd.sub (sz := 8) ro5 (by decide) sv8 hv8 (fun i u hi => by
    rw [nmNest_succ 8, List.getElem?_append_left (by have := (List.getElem?_eq_some_iff.1 hi).1; omega), Nat.zero_mul, Nat.zero_add]; exact hi)
  repeat' (first | refine L.storeV 0 (hc := sv8.cells) (ho := sv8.one) (hl := rfl) (M' := [(p7, ob [.int .i64 9, .slice none 0 0, v8] 25)]) (hM := rfl) (c := ?_) | refine C.seq ?_ | refine C.region ?_ | refine L.nil ?_ | refine D.seq ?_ | refine L.assign (k := ?_) | refine L.fieldAddr (c := ?_) | refine C.block ?_)
  refine C.loop (α := Nat × Value × OS) (fun x => x.1 ≤ 8 ∧ ((x.1 = 0 ∧ x.2.1 = v8 ∧ x.2.2 = none) ∨ (osG 8 (8 + x.1) ((nmDeep x.1).flatMap encO) x.2.2 ∧ x.2.1 = osV (8 + x.1) x.2.2))) (fun x => [(1, .pointer (some ⟨p1, 0, none⟩)), (2, .pointer (some ⟨p2, 0, none⟩)), (3, .pointer (some ⟨p3, 0, none⟩)), (4, .pointer (some ⟨p4, 0, none⟩)), (5, .pointer (some ⟨p5, 0, none⟩)), (7, .pointer (some ⟨p7, 0, none⟩)), (8, .int .i64 x.1)]) (fun x => (p7, ob [.int .i64 9, .slice none 0 0, x.2.1] 25) :: osC 39 x.2.2 []) (fun x => 8 - x.1) (0, v8, none)
    (fun a w hs => hs.lessE rfl (lk_cons rfl (lk_cons rfl (lk_cons rfl (lk_cons rfl (lk_cons rfl (lk_cons rfl (lk_cons rfl (fun _ _ h => lk_nil h))))))))) ⟨Nat.zero_le _, .inl ⟨rfl, rfl, rfl⟩⟩ ?_
  rintro ⟨i, V, z⟩ ⟨hi, hV⟩
  simp only at hi hV ⊢
  have kV : ∀ (A : List Nat) (w0 w' : World), w0 = w6 → At w0 A ((p7, ob [.int .i64 9, .slice none 0 0, V] 25) :: osC 39 z []) w' → A = [] → Rd w' [] V (8 + i) ((nmDeep i).flatMap encO) := by
    rintro A w0 w' rfl hw rfl
    rcases hV with ⟨rfl, rfl, rfl⟩ | ⟨h1, rfl⟩
    · have := r8.at hw
      simpa [nmDeep] using this
    · exact h1.rdm (T := 39) hw (fun x hx => by simp [hx])
  have sVV : SlV V (8 + i) := by
    rcases hV with ⟨rfl, rfl, rfl⟩ | ⟨h1, rfl⟩
    · exact sv8
    · exact h1.sl
  rcases Nat.lt_or_ge i 8 with hlt | hge
  · have k1 : cm .lss (i : Int) 8 = true := cm_lo (by omega)
    have k2 : ar .add .i64 (i : Int) 1 = ((i + 1 : Nat) : Int) := wrap_nat (by omega)
    repeat' (first | refine C.seq ?_ | refine C.region ?_ | refine L.nil ?_ | refine D.seq ?_ | refine L.move (k := ?_) | refine L.cm (c := ?_) | refine L.fieldAddr (c := ?_) | refine L.load1 0 (c := ?_) | refine C.yes (h1 := ?_) | refine C.block ?_ | refine C.skip ?_)
    refine L.callP [] (ownO_S V (8 + i) ((nmDeep i).flatMap encO) (by rw [flat_len encO_len, nmDeep_len]) (ones_flat ones_O _) (by omega)) (hpre := fun w' hw => kV _ _ w' rfl hw rfl) (k := ?_)
    rintro u B ⟨z1, g1, rfl, rfl⟩
    rw [hdrop_nil]
    unfold shut
    repeat' (first | refine L.buildS (c := fun _ => ?_) | refine L.callQ end12_S (k := ?_))
    rename_i nb
    refine L.appendU [(nb, ob (encO endO) 39)] (y := z1) (L2 := (p7, ob [.int .i64 9, .slice none 0 0, V] 25) :: osC 39 z []) (m := 8 + i) (u := .slice (some ⟨nb, 0, none⟩) 1 1) (k := 1) (news := encO endO) g1 (by rw [osC_app 39 z1 ((p7, ob [.int .i64 9, .slice none 0 0, V] 25) :: osC 39 z [])]; rfl) (fun w hw => Rd.own (hw.holds _ List.mem_cons_self) (by simp) (Nat.le_refl _) 8 rfl) rfl (ones_O _) (by unfold maxLen; omega) (by omega) (c := fun z2 g2 _ => ?_)
    rw [← nmDeep_succ] at g2
    refine L.perm (M' := (p7, ob [.int .i64 9, .slice none 0 0, V] 25) :: ((nb, ob (encO endO) 39) :: (osC 39 z [] ++ osC 39 z2 []))) (by
      rw [osC_app 39 z2 ((p7, ob [.int .i64 9, .slice none 0 0, V] 25) :: osC 39 z [])]
      exact perm_by (fun k => match k with | 0 => [(p7, ob [.int .i64 9, .slice none 0 0, V] 25)] | 1 => [(nb, ob (encO endO) 39)] | 2 => osC 39 z [] | _ => osC 39 z2 []) [0, 1, 2, 3] [1, 3, 0, 2] (by simp) (by simp)) ?_
    repeat' (first | refine L.storeV 0 (hc := osV_cells _ _) (ho := osV_one _ _) (hl := rfl) (M' := (p7, ob [.int .i64 9, .slice none 0 0, osV (8 + i + 1) z2] 25) :: ((nb, ob (encO endO) 39) :: (osC 39 z [] ++ osC 39 z2 []))) (hM := rfl) (c := ?_) | refine C.region ?_ | refine L.nil ?_ | refine D.seq ?_ | refine L.move (k := ?_) | refine L.assign (k := ?_) | refine L.ar (c := ?_) | refine L.fieldAddr (c := ?_) | refine D.blkNormal ?_)
    refine D.perm (M' := ((nb, ob (encO endO) 39) :: osC 39 z []) ++ ((p7, ob [.int .i64 9, .slice none 0 0, osV (8 + i + 1) z2] 25) :: osC 39 z2 [])) (perm_by (fun k => match k with | 0 => [(p7, ob [.int .i64 9, .slice none 0 0, osV (8 + i + 1) z2] 25)] | 1 => [(nb, ob (encO endO) 39)] | 2 => osC 39 z [] | _ => osC 39 z2 []) [1, 2, 0, 3] [0, 1, 2, 3] (by simp) (by simp)) ?_
    exact D.then_ fun a1 w4 hs => ⟨(i + 1, osV (8 + i + 1) z2, z2), ⟨hlt, .inr ⟨g2, rfl⟩⟩, by simp only; omega, ⟨At.rest hs.at_, hs.defers, hs.size, fun i v hi => hs.env i v ((lk_cons rfl (lk_cons rfl (lk_cons rfl (lk_cons rfl (lk_cons rfl (lk_cons rfl (lk_cons rfl (fun _ _ h => lk_nil h)))))))) i v hi)⟩⟩
  have hi8 : i = 8 := by omega
  subst hi8
  have k1 : cm .lss ((8 : Nat) : Int) 8 = false := rfl
  refine C.bas (fun w7 h7 => ?_)
  have ro7 := kV _ _ w7 rfl h7 rfl
  have o7 : Old w7 [] p7 0 [.int .i64 9, .slice none 0 0, V] := Old.own (h7.holds (p7, ob [.int .i64 9, .slice none 0 0, V] 25) (by simp)) (by simp) 3 rfl
  replace o1 := o1.at h7
  replace rb1 := rb1.at h7
  replace ro1 := ro1.at h7
  replace o2 := o2.at h7
  replace rb2 := rb2.at h7
  replace ro2 := ro2.at h7
  replace o3 := o3.at h7
  replace rb3 := rb3.at h7
  replace ro3 := ro3.at h7
  replace o4 := o4.at h7
  replace rb4 := rb4.at h7
  replace ro4 := ro4.at h7
  replace o5 := o5.at h7
  replace ro5 := ro5.at h7
  replace bk : ∀ M2 w', At w7 (keys []) M2 w' → At w [] M2 w' := fun M2 w' hw => bk M2 w' (At.back (at_nilr h7) hw)
  --#
  repeat' (first | refine C.seq ?_ | refine C.region ?_ | refine L.nil ?_ | refine D.seq ?_ | refine L.move (k := ?_) | refine L.cm (c := ?_) | refine C.no (h1 := ?_) | refine L.pickT (k := ?_) | refine L.want (k := ?_) | refine C.exit ?_ | refine D.thenExit ?_ | refine D.blkExit ?_ | refine D.seqR (h := ?_) | refine L.buildS (c := fun _ => ?_) | refine L.loadOA o1 (i := 0) (ho := rfl) (hi := Nat.le_refl 3) (hcs := rfl) (c := ?_) | refine L.loadF o1 (i := 2) rfl (c := ?_) | refine L.loadOA o2 (i := 0) (ho := rfl) (hi := Nat.le_refl 3) (hcs := rfl) (c := ?_) | refine L.loadF o2 (i := 2) rfl (c := ?_) | refine L.callQ (op12_S _ _ _ _ _ _ _) (k := ?_) | refine L.callQ end12_S (k := ?_) | refine L.callQ (checks_S 65 (.slice (some ⟨b1, 0, none⟩) 1 1) (.slice (some ⟨b2, 0, none⟩) 3 3) xB (xO) 0 3 (by unfold maxLen; decide) nm1) (hpre := fun w hw => ⟨rb1.at hw, ro1.at hw⟩) (k := ?_) | refine L.callQ (checks_S 2 (.slice (some ⟨b3, 0, none⟩) 1 1) (.slice (some ⟨b4, 0, none⟩) 3 3) nmB1 (xO) 1 2 (by unfold maxLen; decide) nm2) (hpre := fun w hw => ⟨rb2.at hw, ro2.at hw⟩) (k := ?_))
  clear o1 rb1 ro1 o2 rb2 ro2
  rename_i m1
  refine L.forget [(79, .slice (some ⟨m1, 0, none⟩) 1 1), (77, .bool true), (3, .pointer (some ⟨p3, 0, none⟩)), (4, .pointer (some ⟨p4, 0, none⟩)), (5, .pointer (some ⟨p5, 0, none⟩)), (7, .pointer (some ⟨p7, 0, none⟩))] (lk_cons rfl (lk_cons rfl (lk_cons rfl (lk_cons rfl (lk_cons rfl (lk_cons rfl (fun _ _ h => lk_nil h))))))) ?_
  refine L.bas (fun w8 h8 => ?_)
  have hnm : Rd w8 [] (.slice (some ⟨m1, 0, none⟩) 1 1) 1 ([lpO 2 1 (-1) 0 (-1) (-1) 0 0].flatMap encO) := Rd.own (h8.holds _ mem0) (by simp) (Nat.le_refl _) 8 rfl
  replace o3 := o3.at h8
  replace rb3 := rb3.at h8
  replace ro3 := ro3.at h8
  replace o4 := o4.at h8
  replace rb4 := rb4.at h8
  replace ro4 := ro4.at h8
  replace o5 := o5.at h8
  replace ro5 := ro5.at h8
  replace ro7 := ro7.at h8
  replace o7 := o7.at h8
  replace bk : ∀ M2 w', At w8 (keys []) M2 w' → At w [] M2 w' := fun M2 w' hw => bk M2 w' (At.back (at_nilr h8) hw)
  refine L.callP [] (with_S (.slice (some ⟨m1, 0, none⟩) 1 1) [lpO 2 1 (-1) 0 (-1) (-1) 0 0] (by decide)) (hpre := fun w hw => hnm.at hw) (k := ?_)
  rintro u B ⟨c1, z1, rfl, e1, rfl⟩
  rw [hdrop_nil]
  try unfold shut
  try unfold progV
  refine L.bas (fun w9 h9 => ?_)
  have rbt : Rd w9 [] (.slice (some ⟨c1, 0, none⟩) 1 1) 1 (xB.flatMap encB) := Rd.own (h9.holds (c1, ob (xB.flatMap encB) 33) (by simp)) (by simp) (Nat.le_refl _) 3 rfl
  have rot := e1.rdm (T := 39) h9 (fun x hx => by simp [hx])
  replace o3 := o3.at h9
  replace rb3 := rb3.at h9
  replace ro3 := ro3.at h9
  replace o4 := o4.at h9
  replace rb4 := rb4.at h9
  replace ro4 := ro4.at h9
  replace o5 := o5.at h9
  replace ro5 := ro5.at h9
  replace ro7 := ro7.at h9
  replace o7 := o7.at h9
  replace bk : ∀ M2 w', At w9 (keys []) M2 w' → At w [] M2 w' := fun M2 w' hw => bk M2 w' (At.back (at_nilr h9) hw)
  --#
  repeat' (first | refine L.move (k := ?_) | refine L.pickT (k := ?_) | refine L.want (k := ?_) | refine L.buildS (c := fun _ => ?_) | refine L.callQ (op12_S _ _ _ _ _ _ _) (k := ?_) | refine L.callQ end12_S (k := ?_) | refine L.callQ (checks_S 2 (.slice (some ⟨c1, 0, none⟩) 1 1) (osV (xO ++ [lpO 2 1 (-1) 0 (-1) (-1) 0 0]).length z1) xB (xO ++ [lpO 2 1 (-1) 0 (-1) (-1) 0 0]) 3 5 (by unfold maxLen; decide) nm3) (hpre := fun w hw => ⟨rbt.at hw, rot.at hw⟩) (k := ?_))
  rename_i m2
  refine L.forget [(85, .slice (some ⟨m2, 0, none⟩) 1 1), (83, .bool true), (3, .pointer (some ⟨p3, 0, none⟩)), (4, .pointer (some ⟨p4, 0, none⟩)), (5, .pointer (some ⟨p5, 0, none⟩)), (7, .pointer (some ⟨p7, 0, none⟩))] (lk_cons rfl (lk_cons rfl (lk_cons rfl (lk_cons rfl (lk_cons rfl (lk_cons rfl (fun _ _ h => lk_nil h))))))) ?_
  refine L.bas (fun w10 h10 => ?_)
  have hnm : Rd w10 [] (.slice (some ⟨m2, 0, none⟩) 1 1) 1 ([endO].flatMap encO) := Rd.own (h10.holds _ mem0) (by simp) (Nat.le_refl _) 8 rfl
  replace o3 := o3.at h10
  replace rb3 := rb3.at h10
  replace ro3 := ro3.at h10
  replace o4 := o4.at h10
  replace rb4 := rb4.at h10
  replace ro4 := ro4.at h10
  replace o5 := o5.at h10
  replace ro5 := ro5.at h10
  replace ro7 := ro7.at h10
  replace o7 := o7.at h10
  replace bk : ∀ M2 w', At w10 (keys []) M2 w' → At w [] M2 w' := fun M2 w' hw => bk M2 w' (At.back (at_nilr h10) hw)
  refine L.callP [] (with_S (.slice (some ⟨m2, 0, none⟩) 1 1) [endO] (by decide)) (hpre := fun w hw => hnm.at hw) (k := ?_)
  rintro u B ⟨c2, z2, rfl, e2, rfl⟩
  rw [hdrop_nil]
  try unfold shut
  try unfold progV
  refine L.bas (fun w11 h11 => ?_)
  have rbt : Rd w11 [] (.slice (some ⟨c2, 0, none⟩) 1 1) 1 (xB.flatMap encB) := Rd.own (h11.holds (c2, ob (xB.flatMap encB) 33) (by simp)) (by simp) (Nat.le_refl _) 3 rfl
  have rot := e2.rdm (T := 39) h11 (fun x hx => by simp [hx])
  replace o3 := o3.at h11
  replace rb3 := rb3.at h11
  replace ro3 := ro3.at h11
  replace o4 := o4.at h11
  replace rb4 := rb4.at h11
  replace ro4 := ro4.at h11
  replace o5 := o5.at h11
  replace ro5 := ro5.at h11
  replace ro7 := ro7.at h11
  replace o7 := o7.at h11
  replace bk : ∀ M2 w', At w11 (keys []) M2 w' → At w [] M2 w' := fun M2 w' hw => bk M2 w' (At.back (at_nilr h11) hw)
  --#
  repeat' (first | refine L.move (k := ?_) | refine L.pickT (k := ?_) | refine L.want (k := ?_) | refine L.buildS (c := fun _ => ?_) | refine L.callQ (op12_S _ _ _ _ _ _ _) (k := ?_) | refine L.callQ end12_S (k := ?_) | refine L.callQ (checks_S 2 (.slice (some ⟨c2, 0, none⟩) 1 1) (osV (xO ++ [endO]).length z2) xB (xO ++ [endO]) 3 9 (by unfold maxLen; decide) nm4) (hpre := fun w hw => ⟨rbt.at hw, rot.at hw⟩) (k := ?_) | refine L.loadOA o3 (i := 0) (ho := rfl) (hi := Nat.le_refl 3) (hcs := rfl) (c := ?_) | refine L.loadF o3 (i := 2) rfl (c := ?_) | refine L.loadOA o4 (i := 0) (ho := rfl) (hi := Nat.le_refl 3) (hcs := rfl) (c := ?_) | refine L.loadF o4 (i := 2) rfl (c := ?_) | refine L.loadOA o5 (i := 0) (ho := rfl) (hi := Nat.le_refl 3) (hcs := rfl) (c := ?_) | refine L.loadF o5 (i := 2) rfl (c := ?_) | refine L.callQ (checks_S 2 (.slice (some ⟨b5, 0, none⟩) 1 1) (osV (xO ++ nmMade).length y3) xB (xO ++ nmMade) 4 9 (by unfold maxLen; decide) nm5) (hpre := fun w hw => ⟨rb3.at hw, ro3.at hw⟩) (k := ?_) | refine L.callQ (checks_S 2 (.slice (some ⟨b6, 0, none⟩) 1 1) (osV (xO ++ nmOwn).length y4) xB (xO ++ nmOwn) 4 9 (by unfold maxLen; decide) nm6) (hpre := fun w hw => ⟨rb4.at hw, ro4.at hw⟩) (k := ?_) | refine L.callQ (checks_S 9 (nilV) (osV 9 y) [] (nmNest 9) 8 10 (by unfold maxLen; decide) nm7) (hpre := fun w hw => ⟨Rd.nil, ro5.at hw⟩) (k := ?_))
  clear o3 rb3 ro3 o4 rb4 ro4 o5 ro5
  rename_i m3
  refine L.forget [(103, .slice (some ⟨m3, 0, none⟩) 1 1), (101, .bool true), (7, .pointer (some ⟨p7, 0, none⟩))] (lk_cons rfl (lk_cons rfl (lk_cons rfl (fun _ _ h => lk_nil h)))) ?_
  refine L.bas (fun w12 h12 => ?_)
  have hnm : Rd w12 [] (.slice (some ⟨m3, 0, none⟩) 1 1) 1 ([lpO 16 1 (-1) (-1) (-1) (-1) 0 2].flatMap encO) := Rd.own (h12.holds _ mem0) (by simp) (Nat.le_refl _) 8 rfl
  replace ro7 := ro7.at h12
  replace o7 := o7.at h12
  replace bk : ∀ M2 w', At w12 (keys []) M2 w' → At w [] M2 w' := fun M2 w' hw => bk M2 w' (At.back (at_nilr h12) hw)
  refine L.callP [] (with_S (.slice (some ⟨m3, 0, none⟩) 1 1) [lpO 16 1 (-1) (-1) (-1) (-1) 0 2] (by decide)) (hpre := fun w hw => hnm.at hw) (k := ?_)
  rintro u B ⟨c3, z3, rfl, e3, rfl⟩
  rw [hdrop_nil]
  try unfold shut
  try unfold progV
  refine L.bas (fun w13 h13 => ?_)
  have rbt : Rd w13 [] (.slice (some ⟨c3, 0, none⟩) 1 1) 1 (xB.flatMap encB) := Rd.own (h13.holds (c3, ob (xB.flatMap encB) 33) (by simp)) (by simp) (Nat.le_refl _) 3 rfl
  have rot := e3.rdm (T := 39) h13 (fun x hx => by simp [hx])
  replace ro7 := ro7.at h13
  replace o7 := o7.at h13
  replace bk : ∀ M2 w', At w13 (keys []) M2 w' → At w [] M2 w' := fun M2 w' hw => bk M2 w' (At.back (at_nilr h13) hw)
  --#
  repeat' (first | refine L.move (k := ?_) | refine L.pickT (k := ?_) | refine L.want (k := ?_) | refine L.buildS (c := fun _ => ?_) | refine L.callQ (op12_S _ _ _ _ _ _ _) (k := ?_) | refine L.callQ end12_S (k := ?_) | refine L.callQ (checks_S 2 (.slice (some ⟨c3, 0, none⟩) 1 1) (osV (xO ++ [lpO 16 1 (-1) (-1) (-1) (-1) 0 2]).length z3) xB (xO ++ [lpO 16 1 (-1) (-1) (-1) (-1) 0 2]) 4 9 (by unfold maxLen; decide) nm8) (hpre := fun w hw => ⟨rbt.at hw, rot.at hw⟩) (k := ?_))
  rename_i m4
  refine L.forget [(109, .slice (some ⟨m4, 0, none⟩) 1 1), (107, .bool true), (7, .pointer (some ⟨p7, 0, none⟩))] (lk_cons rfl (lk_cons rfl (lk_cons rfl (fun _ _ h => lk_nil h)))) ?_
  refine L.bas (fun w14 h14 => ?_)
  have hnm : Rd w14 [] (.slice (some ⟨m4, 0, none⟩) 1 1) 1 ([lpO 1 1 (-1) 0 (-1) (-1) 0 2].flatMap encO) := Rd.own (h14.holds _ mem0) (by simp) (Nat.le_refl _) 8 rfl
  replace ro7 := ro7.at h14
  replace o7 := o7.at h14
  replace bk : ∀ M2 w', At w14 (keys []) M2 w' → At w [] M2 w' := fun M2 w' hw => bk M2 w' (At.back (at_nilr h14) hw)
  refine L.callP [] (with_S (.slice (some ⟨m4, 0, none⟩) 1 1) [lpO 1 1 (-1) 0 (-1) (-1) 0 2] (by decide)) (hpre := fun w hw => hnm.at hw) (k := ?_)
  rintro u B ⟨c4, z4, rfl, e4, rfl⟩
  rw [hdrop_nil]
  try unfold shut
  try unfold progV
  refine L.bas (fun w15 h15 => ?_)
  have rbt : Rd w15 [] (.slice (some ⟨c4, 0, none⟩) 1 1) 1 (xB.flatMap encB) := Rd.own (h15.holds (c4, ob (xB.flatMap encB) 33) (by simp)) (by simp) (Nat.le_refl _) 3 rfl
  have rot := e4.rdm (T := 39) h15 (fun x hx => by simp [hx])
  replace ro7 := ro7.at h15
  replace o7 := o7.at h15
  replace bk : ∀ M2 w', At w15 (keys []) M2 w' → At w [] M2 w' := fun M2 w' hw => bk M2 w' (At.back (at_nilr h15) hw)
  --#
  repeat' (first | refine L.move (k := ?_) | refine L.pickT (k := ?_) | refine L.want (k := ?_) | refine L.buildS (c := fun _ => ?_) | refine L.callQ (op12_S _ _ _ _ _ _ _) (k := ?_) | refine L.callQ end12_S (k := ?_) | refine L.callQ (checks_S 2 (.slice (some ⟨c4, 0, none⟩) 1 1) (osV (xO ++ [lpO 1 1 (-1) 0 (-1) (-1) 0 2]).length z4) xB (xO ++ [lpO 1 1 (-1) 0 (-1) (-1) 0 2]) 3 2 (by unfold maxLen; decide) nm9) (hpre := fun w hw => ⟨rbt.at hw, rot.at hw⟩) (k := ?_))
  rename_i m5
  refine L.forget [(115, .slice (some ⟨m5, 0, none⟩) 1 1), (113, .bool true), (7, .pointer (some ⟨p7, 0, none⟩))] (lk_cons rfl (lk_cons rfl (lk_cons rfl (fun _ _ h => lk_nil h)))) ?_
  refine L.bas (fun w16 h16 => ?_)
  have hnm : Rd w16 [] (.slice (some ⟨m5, 0, none⟩) 1 1) 1 ([lpO 14 1 (-1) (-1) (-1) (-1) 0 2].flatMap encO) := Rd.own (h16.holds _ mem0) (by simp) (Nat.le_refl _) 8 rfl
  replace ro7 := ro7.at h16
  replace o7 := o7.at h16
  replace bk : ∀ M2 w', At w16 (keys []) M2 w' → At w [] M2 w' := fun M2 w' hw => bk M2 w' (At.back (at_nilr h16) hw)
  refine L.callP [] (with_S (.slice (some ⟨m5, 0, none⟩) 1 1) [lpO 14 1 (-1) (-1) (-1) (-1) 0 2] (by decide)) (hpre := fun w hw => hnm.at hw) (k := ?_)
  rintro u B ⟨c5, z5, rfl, e5, rfl⟩
  rw [hdrop_nil]
  try unfold shut
  try unfold progV
  refine L.bas (fun w17 h17 => ?_)
  have rbt : Rd w17 [] (.slice (some ⟨c5, 0, none⟩) 1 1) 1 (xB.flatMap encB) := Rd.own (h17.holds (c5, ob (xB.flatMap encB) 33) (by simp)) (by simp) (Nat.le_refl _) 3 rfl
  have rot := e5.rdm (T := 39) h17 (fun x hx => by simp [hx])
  replace ro7 := ro7.at h17
  replace o7 := o7.at h17
  replace bk : ∀ M2 w', At w17 (keys []) M2 w' → At w [] M2 w' := fun M2 w' hw => bk M2 w' (At.back (at_nilr h17) hw)
  --#
  repeat' (first | refine C.seq ?_ | refine C.region ?_ | refine L.nil ?_ | refine L.assign (k := ?_) | refine L.pickT (k := ?_) | refine L.want (k := ?_) | refine D.seqR (h := ?_) | refine L.buildS (c := fun _ => ?_) | refine L.callQ (op12_S _ _ _ _ _ _ _) (k := ?_) | refine L.callQ end12_S (k := ?_) | refine L.callQ (checks_S 2 (.slice (some ⟨c5, 0, none⟩) 1 1) (osV (xO ++ [lpO 14 1 (-1) (-1) (-1) (-1) 0 2]).length z5) xB (xO ++ [lpO 14 1 (-1) (-1) (-1) (-1) 0 2]) 3 2 (by unfold maxLen; decide) nm10) (hpre := fun w hw => ⟨rbt.at hw, rot.at hw⟩) (k := ?_))
  rename_i n10
  refine L.forget [(124, .slice (some ⟨n10, 0, none⟩) 5 5), (9, .bool true), (7, .pointer (some ⟨p7, 0, none⟩))] (lk_cons rfl (lk_cons rfl (lk_cons rfl (fun _ _ h => lk_nil h)))) ?_
  refine L.bas (fun w18 h18 => ?_)
  have hnm : Rd w18 [] (.slice (some ⟨n10, 0, none⟩) 5 5) 5 (nmP.flatMap encO) := Rd.own (h18.holds _ mem0) (by simp) (Nat.le_refl _) 40 rfl
  replace ro7 := ro7.at h18
  replace o7 := o7.at h18
  replace bk : ∀ M2 w', At w18 (keys []) M2 w' → At w [] M2 w' := fun M2 w' hw => bk M2 w' (At.back (at_nilr h18) hw)
  refine L.callP [] (with_S (.slice (some ⟨n10, 0, none⟩) 5 5) nmP (by decide)) (hpre := fun w hw => hnm.at hw) (k := ?_)
  rintro u B ⟨b10, y10, rfl, g10, rfl⟩
  rw [hdrop_nil]
  try unfold shut
  try unfold progV
  repeat' (first | refine L.alloc (c := fun _ => ?_))
  rename_i p10
  refine L.storeV 0 (vs := [.int .i64 2, .slice (some ⟨b10, 0, none⟩) 1 1, osV (xO ++ nmP).length y10]) (ho := by simp only [List.all_cons, List.all_nil, oneB_os, Bool.and_true]; rfl) (hl := rfl) (M' := (p10, ob [.int .i64 2, .slice (some ⟨b10, 0, none⟩) 1 1, osV (xO ++ nmP).length y10] 25) :: ((b10, ob (xB.flatMap encB) 33) :: osC 39 y10 [] ++ [])) (hM := rfl) (c := ?_)
  refine L.nil ?_
  refine D.seqR (h := ?_)
  refine C.bas (fun w19 h19 => ?_)
  have o10 : Old w19 [] p10 0 [.int .i64 2, .slice (some ⟨b10, 0, none⟩) 1 1, osV (xO ++ nmP).length y10] := Old.own (h19.holds (p10, ob [.int .i64 2, .slice (some ⟨b10, 0, none⟩) 1 1, osV (xO ++ nmP).length y10] 25) (by simp)) (by simp) 3 rfl
  have rb10 : Rd w19 [] (.slice (some ⟨b10, 0, none⟩) 1 1) 1 (xB.flatMap encB) := Rd.own (h19.holds (b10, ob (xB.flatMap encB) 33) (by simp)) (by simp) (Nat.le_refl _) 3 rfl
  have ro10 := g10.rdm (T := 39) h19 (fun x hx => by simp [hx])
  replace ro7 := ro7.at h19
  replace o7 := o7.at h19
  replace bk : ∀ M2 w', At w19 (keys []) M2 w' → At w [] M2 w' := fun M2 w' hw => bk M2 w' (At.back (at_nilr h19) hw)
  --#
  repeat' (first | refine C.seq ?_ | refine C.region ?_ | refine L.buildS (c := fun _ => ?_) | refine L.loadOA o10 (i := 0) (ho := rfl) (hi := Nat.le_refl 3) (hcs := rfl) (c := ?_) | refine L.loadF o10 (i := 2) rfl (c := ?_))
  rename_i d1a d1b
  refine L.forget [(127, .agg #[.int .i64 2, .slice (some ⟨b10, 0, none⟩) 1 1, osV (xO ++ nmP).length y10]), (129, .slice (some ⟨d1b, 0, none⟩) 1 1), (9, .bool true), (7, .pointer (some ⟨p7, 0, none⟩)), (10, .pointer (some ⟨p10, 0, none⟩))] (lk_cons rfl (lk_cons rfl (lk_cons rfl (lk_cons rfl (lk_cons rfl (fun _ _ h => lk_nil h)))))) ?_
  refine L.callP [] (lrun_S 2 (.slice (some ⟨b10, 0, none⟩) 1 1) (osV (xO ++ nmP).length y10) (.slice (some ⟨d1b, 0, none⟩) 1 1) xB (xO ++ nmP) [(.slice (some ⟨d1a, 0, none⟩) 2 2, [0, 0])] (by unfold maxLen; decide) (w_all (by decide +kernel)) (by intro r hr; simp at hr; subst hr; intro x hx; simp at hx; subst hx; exact ⟨by decide, by decide⟩)) (hpre := fun w hw => ⟨⟨rb10.at hw, ro10.at hw⟩, rdR_one (Rd.own (hw.holds _ mem0) (by simp) (Nat.le_refl _) 1 rfl) (Rd.own (hw.holds _ mem1) (by simp) (Nat.le_refl _) 2 rfl)⟩) (k := ?_)
  intro u1 B1 hu
  rw [hdrop_nil]
  have e1 := nmR1 (.slice (some ⟨d1a, 0, none⟩) 2 2)
  obtain ⟨X1, hX1⟩ : ∃ X, outR 2 xB (xO ++ nmP) [(.slice (some ⟨d1a, 0, none⟩) 2 2, [0, 0])] = X := ⟨_, rfl⟩
  rw [hX1] at e1
  obtain ⟨xv1, lv1, rx1, rfl, hm1, _, hrx⟩ := run_readX hX1 hu
  unfold shut
  refine L.bas (fun w20 h20 => ?_)
  obtain ⟨rX1, rL1⟩ := hrx _ _ _ _ h20 (fun b hb => by simp [hb])
  clear hrx hu
  replace ro7 := ro7.at h20
  replace o7 := o7.at h20
  replace o10 := o10.at h20
  replace rb10 := rb10.at h20
  replace ro10 := ro10.at h20
  replace bk : ∀ M2 w', At w20 (keys []) M2 w' → At w [] M2 w' := fun M2 w' hw => bk M2 w' (At.back (at_nilr h20) hw)
  repeat' (first | refine C.seq ?_ | refine C.region ?_ | refine L.nil ?_ | refine L.move (k := ?_) | refine L.assign (k := ?_) | refine L.extract (c := ?_) | refine D.seqR (h := ?_) | refine L.buildS (c := fun _ => ?_) | refine L.callQ (op12_S _ _ _ _ _ _ _) (k := ?_) | refine L.callQ end12_S (k := ?_))
  rename_i n14
  refine L.forget [(136, .slice (some ⟨n14, 0, none⟩) 2 2), (9, .bool true), (7, .pointer (some ⟨p7, 0, none⟩)), (10, .pointer (some ⟨p10, 0, none⟩)), (11, xv1), (12, lv1), (13, .int .i64 X1.1)] (lk_cons rfl (lk_cons rfl (lk_cons rfl (lk_cons rfl (lk_cons rfl (lk_cons rfl (lk_cons rfl (fun _ _ h => lk_nil h)))))))) ?_
  refine L.bas (fun w21 h21 => ?_)
  have hnm : Rd w21 [] (.slice (some ⟨n14, 0, none⟩) 2 2) 2 (nmQ.flatMap encO) := Rd.own (h21.holds _ mem0) (by simp) (Nat.le_refl _) 16 rfl
  replace ro7 := ro7.at h21
  replace o7 := o7.at h21
  replace o10 := o10.at h21
  replace rb10 := rb10.at h21
  replace ro10 := ro10.at h21
  replace rX1 := rX1.at h21
  replace rL1 := rL1.at h21
  replace bk : ∀ M2 w', At w21 (keys []) M2 w' → At w [] M2 w' := fun M2 w' hw => bk M2 w' (At.back (at_nilr h21) hw)
  refine L.callP [] (with_S (.slice (some ⟨n14, 0, none⟩) 2 2) nmQ (by decide)) (hpre := fun w hw => hnm.at hw) (k := ?_)
  rintro u B ⟨b14, y14, rfl, g14, rfl⟩
  rw [hdrop_nil]
  try unfold shut
  try unfold progV
  repeat' (first | refine L.alloc (c := fun _ => ?_))
  rename_i p14
  refine L.storeV 0 (vs := [.int .i64 2, .slice (some ⟨b14, 0, none⟩) 1 1, osV (xO ++ nmQ).length y14]) (ho := by simp only [List.all_cons, List.all_nil, oneB_os, Bool.and_true]; rfl) (hl := rfl) (M' := (p14, ob [.int .i64 2, .slice (some ⟨b14, 0, none⟩) 1 1, osV (xO ++ nmQ).length y14] 25) :: ((b14, ob (xB.flatMap encB) 33) :: osC 39 y14 [] ++ [])) (hM := rfl) (c := ?_)
  refine L.nil ?_
  refine D.seqR (h := ?_)
  refine C.bas (fun w22 h22 => ?_)
  have o14 : Old w22 [] p14 0 [.int .i64 2, .slice (some ⟨b14, 0, none⟩) 1 1, osV (xO ++ nmQ).length y14] := Old.own (h22.holds (p14, ob [.int .i64 2, .slice (some ⟨b14, 0, none⟩) 1 1, osV (xO ++ nmQ).length y14] 25) (by simp)) (by simp) 3 rfl
  have rb14 : Rd w22 [] (.slice (some ⟨b14, 0, none⟩) 1 1) 1 (xB.flatMap encB) := Rd.own (h22.holds (b14, ob (xB.flatMap encB) 33) (by simp)) (by simp) (Nat.le_refl _) 3 rfl
  have ro14 := g14.rdm (T := 39) h22 (fun x hx => by simp [hx])
  replace ro7 := ro7.at h22
  replace o7 := o7.at h22
  replace o10 := o10.at h22
  replace rb10 := rb10.at h22
  replace ro10 := ro10.at h22
  replace rX1 := rX1.at h22
  replace rL1 := rL1.at h22
  replace bk : ∀ M2 w', At w22 (keys []) M2 w' → At w [] M2 w' := fun M2 w' hw => bk M2 w' (At.back (at_nilr h22) hw)
  --#
  repeat' (first | refine C.seq ?_ | refine C.region ?_ | refine L.buildS (c := fun _ => ?_) | refine L.loadOA o14 (i := 0) (ho := rfl) (hi := Nat.le_refl 3) (hcs := rfl) (c := ?_) | refine L.loadF o14 (i := 2) rfl (c := ?_))
  rename_i d2a d2b
  refine L.forget [(139, .agg #[.int .i64 2, .slice (some ⟨b14, 0, none⟩) 1 1, osV (xO ++ nmQ).length y14]), (141, .slice (some ⟨d2b, 0, none⟩) 1 1), (9, .bool true), (7, .pointer (some ⟨p7, 0, none⟩)), (10, .pointer (some ⟨p10, 0, none⟩)), (11, xv1), (12, lv1), (13, .int .i64 X1.1), (14, .pointer (some ⟨p14, 0, none⟩))] (lk_cons rfl (lk_cons rfl (lk_cons rfl (lk_cons rfl (lk_cons rfl (lk_cons rfl (lk_cons rfl (lk_cons rfl (lk_cons rfl (fun _ _ h => lk_nil h)))))))))) ?_
  refine L.callP [] (lrun_S 2 (.slice (some ⟨b14, 0, none⟩) 1 1) (osV (xO ++ nmQ).length y14) (.slice (some ⟨d2b, 0, none⟩) 1 1) xB (xO ++ nmQ) [(.slice (some ⟨d2a, 0, none⟩) 2 2, [0, 0])] (by unfold maxLen; decide) (w_all (by decide +kernel)) (by intro r hr; simp at hr; subst hr; intro x hx; simp at hx; subst hx; exact ⟨by decide, by decide⟩)) (hpre := fun w hw => ⟨⟨rb14.at hw, ro14.at hw⟩, rdR_one (Rd.own (hw.holds _ mem0) (by simp) (Nat.le_refl _) 1 rfl) (Rd.own (hw.holds _ mem1) (by simp) (Nat.le_refl _) 2 rfl)⟩) (k := ?_)
  intro u2 B2 hu
  rw [hdrop_nil]
  have e2 := nmR2 (.slice (some ⟨d2a, 0, none⟩) 2 2)
  obtain ⟨X2, hX2⟩ : ∃ X, outR 2 xB (xO ++ nmQ) [(.slice (some ⟨d2a, 0, none⟩) 2 2, [0, 0])] = X := ⟨_, rfl⟩
  rw [hX2] at e2
  obtain ⟨xv2, lv2, rx2, rfl, hm2, _, hrx⟩ := run_readX hX2 hu
  unfold shut
  refine L.bas (fun w23 h23 => ?_)
  obtain ⟨rX2, rL2⟩ := hrx _ _ _ _ h23 (fun b hb => by simp [hb])
  clear hrx hu
  replace ro7 := ro7.at h23
  replace o7 := o7.at h23
  replace o10 := o10.at h23
  replace rb10 := rb10.at h23
  replace ro10 := ro10.at h23
  replace rX1 := rX1.at h23
  replace rL1 := rL1.at h23
  replace o14 := o14.at h23
  replace rb14 := rb14.at h23
  replace ro14 := ro14.at h23
  replace bk : ∀ M2 w', At w23 (keys []) M2 w' → At w [] M2 w' := fun M2 w' hw => bk M2 w' (At.back (at_nilr h23) hw)
  --#
  repeat' (first | refine C.seq ?_ | refine C.region ?_ | refine L.nil ?_ | refine L.move (k := ?_) | refine L.assign (k := ?_) | refine L.extract (c := ?_) | refine D.seqR (h := ?_) | refine L.buildS (c := fun _ => ?_) | refine L.loadOA o14 (i := 0) (ho := rfl) (hi := Nat.le_refl 3) (hcs := rfl) (c := ?_) | refine L.loadF o14 (i := 2) rfl (c := ?_))
  rename_i d3a d3b
  refine L.forget [(147, .agg #[.int .i64 2, .slice (some ⟨b14, 0, none⟩) 1 1, osV (xO ++ nmQ).length y14]), (149, .slice (some ⟨d3b, 0, none⟩) 1 1), (9, .bool true), (7, .pointer (some ⟨p7, 0, none⟩)), (10, .pointer (some ⟨p10, 0, none⟩)), (11, xv1), (12, lv1), (13, .int .i64 X1.1), (14, .pointer (some ⟨p14, 0, none⟩)), (16, lv2), (17, .int .i64 X2.1)] (lk_cons rfl (lk_cons rfl (lk_cons rfl (lk_cons rfl (lk_cons rfl (lk_cons rfl (lk_cons rfl (lk_cons rfl (lk_cons rfl (lk_cons rfl (lk_cons rfl (fun _ _ h => lk_nil h)))))))))))) ?_
  refine L.callP [] (lrun_S 2 (.slice (some ⟨b14, 0, none⟩) 1 1) (osV (xO ++ nmQ).length y14) (.slice (some ⟨d3b, 0, none⟩) 1 1) xB (xO ++ nmQ) [(.slice (some ⟨d3a, 0, none⟩) 1 1, [0])] (by unfold maxLen; decide) (w_all (by decide +kernel)) (by intro r hr; simp at hr; subst hr; intro x hx; simp at hx; subst hx; exact ⟨by decide, by decide⟩)) (hpre := fun w hw => ⟨⟨rb14.at hw, ro14.at hw⟩, rdR_one (Rd.own (hw.holds _ mem0) (by simp) (Nat.le_refl _) 1 rfl) (Rd.own (hw.holds _ mem1) (by simp) (Nat.le_refl _) 1 rfl)⟩) (k := ?_)
  intro u3 B3 hu
  rw [hdrop_nil]
  have e3 := nmR3 (.slice (some ⟨d3a, 0, none⟩) 1 1)
  obtain ⟨X3, hX3⟩ : ∃ X, outR 2 xB (xO ++ nmQ) [(.slice (some ⟨d3a, 0, none⟩) 1 1, [0])] = X := ⟨_, rfl⟩
  rw [hX3] at e3
  obtain ⟨xv3, lv3, rx3, rfl, hm3, _, hrx⟩ := run_readX hX3 hu
  unfold shut
  refine L.bas (fun w24 h24 => ?_)
  obtain ⟨rX3, rL3⟩ := hrx _ _ _ _ h24 (fun b hb => by simp [hb])
  clear hrx hu
  replace ro7 := ro7.at h24
  replace o7 := o7.at h24
  replace o10 := o10.at h24
  replace rb10 := rb10.at h24
  replace ro10 := ro10.at h24
  replace rX1 := rX1.at h24
  replace rL1 := rL1.at h24
  replace o14 := o14.at h24
  replace rb14 := rb14.at h24
  replace ro14 := ro14.at h24
  replace rX2 := rX2.at h24
  replace rL2 := rL2.at h24
  replace bk : ∀ M2 w', At w24 (keys []) M2 w' → At w [] M2 w' := fun M2 w' hw => bk M2 w' (At.back (at_nilr h24) hw)
  repeat' (first | refine C.seq ?_ | refine C.region ?_ | refine L.nil ?_ | refine L.move (k := ?_) | refine L.assign (k := ?_) | refine L.extract (c := ?_) | refine D.seqR (h := ?_) | refine L.loadOA o7 (i := 0) (ho := rfl) (hi := Nat.le_refl 3) (hcs := rfl) (c := ?_) | refine L.loadF o7 (i := 2) rfl (c := ?_))
  refine L.forget [(155, .agg #[.int .i64 9, .slice none 0 0, V]), (9, .bool true), (7, .pointer (some ⟨p7, 0, none⟩)), (10, .pointer (some ⟨p10, 0, none⟩)), (11, xv1), (12, lv1), (13, .int .i64 X1.1), (14, .pointer (some ⟨p14, 0, none⟩)), (16, lv2), (17, .int .i64 X2.1), (20, .int .i64 X3.1)] (lk_cons rfl (lk_cons rfl (lk_cons rfl (lk_cons rfl (lk_cons rfl (lk_cons rfl (lk_cons rfl (lk_cons rfl (lk_cons rfl (lk_cons rfl (lk_cons rfl (fun _ _ h => lk_nil h)))))))))))) ?_
  refine L.callP [] (lrun_S 9 nilV V nilV [] (nmDeep 8) [] (by unfold maxLen; decide) (w_all (by decide +kernel)) (by intro r hr; cases hr)) (hpre := fun w hw => ⟨⟨Rd.nil, ro7.at hw⟩, ⟨Rd.nil, fun r hr => by cases hr⟩⟩) (k := ?_)
  intro u4 B4 hu
  rw [hdrop_nil]
  have e4 := nmR4
  obtain ⟨X4, hX4⟩ : ∃ X, outR 9 [] (nmDeep 8) [] = X := ⟨_, rfl⟩
  rw [hX4] at e4
  obtain ⟨xv4, lv4, rx4, rfl, hm4, _, hrx⟩ := run_readX hX4 hu
  unfold shut
  refine L.bas (fun w25 h25 => ?_)
  obtain ⟨rX4, rL4⟩ := hrx _ _ _ _ h25 (fun b hb => by simp [hb])
  clear hrx hu
  replace ro7 := ro7.at h25
  replace o7 := o7.at h25
  replace o10 := o10.at h25
  replace rb10 := rb10.at h25
  replace ro10 := ro10.at h25
  replace rX1 := rX1.at h25
  replace rL1 := rL1.at h25
  replace o14 := o14.at h25
  replace rb14 := rb14.at h25
  replace ro14 := ro14.at h25
  replace rX2 := rX2.at h25
  replace rL2 := rL2.at h25
  replace rX3 := rX3.at h25
  replace rL3 := rL3.at h25
  replace bk : ∀ M2 w', At w25 (keys []) M2 w' → At w [] M2 w' := fun M2 w' hw => bk M2 w' (At.back (at_nilr h25) hw)
  have c1 : cm .eql X1.1 0 = true := cm_yes e1.1
  have c2 : cm .eql (X1.2.2.length : Int) 9 = true := cm_yes (by rw [e1.2.2.1]; rfl)
  have c3 : cm .eql X2.1 11 = true := cm_yes e2.1
  have c4 : cm .eql (X2.2.2.length : Int) 5 = true := cm_yes (by rw [e2.2]; rfl)
  have c5 : cm .eql X3.1 2 = true := cm_yes e3
  have c6 : cm .eql X4.1 10 = true := cm_yes e4
  obtain ⟨ev, hev, hea⟩ : ∃ ev, X1.2.2[7]? = some ev ∧ ev.at_ = 0 := by
    have h := e1.2.2.2
    cases hx : X1.2.2[7]? with
    | none => rw [hx] at h; cases h
    | some ev => rw [hx] at h; exact ⟨ev, rfl, Option.some.inj h⟩
  have c7 : cm .eql ev.at_ 0 = true := cm_yes hea
  have hlt7 : 7 < X1.2.2.length := by rw [e1.2.2.1]; decide
  have fe := flat_get encE_len X1.2.2 7 ev hev 1 (by decide)
  repeat' (first | refine C.seq ?_ | refine L.nil ?_ | refine L.move (k := ?_) | refine L.assign (k := ?_) | refine L.extract (c := ?_) | refine D.seqR (h := ?_))
  have kS1 := lsteps_S 9 nilV V [] (nmDeep 8) (by unfold maxLen; decide)
  rw [nmS1] at kS1
  have kB := lsame_S 2 2 (.slice (some ⟨b10, 0, none⟩) 1 1) (osV (xO ++ nmP).length y10) (.slice (some ⟨b14, 0, none⟩) 1 1) (osV (xO ++ nmQ).length y14) xB xB (xO ++ nmP) (xO ++ nmQ) (by decide) (by decide)
  rw [decide_eq_false (fun h => absurd h.2.2 (by decide))] at kB
  try simp only [List.append_eq, List.cons_append, List.nil_append]
  refine C.fresh (by kernel_rfl) (h := ?_)
  (refine QF.val0 (v := ?_) (by exact rfl) (by exact rfl) (fun w1 g1 => ?_) ?_; rotate_left)
  · repeat (first | refine L.nil ?_ | refine L.move (k := ?_) | exact D.endsJ (hJ := fun w hw => ⟨rfl, hw⟩))
  (refine QF.val0 (v := ?_) (by exact rfl) (by exact rfl) (fun w1 g1 => ?_) ?_; rotate_left)
  · repeat (first | refine L.nil ?_ | refine L.move (k := ?_) | exact D.endsJ (hJ := fun w hw => ⟨rfl, hw⟩))
  (refine QF.val0 (v := ?_) (by exact rfl) (by exact rfl) (fun w1 g1 => ?_) ?_; rotate_left)
  · repeat (first | refine L.nil ?_ | refine L.move (k := ?_) | refine L.want (k := ?_) | exact D.endsJ (hJ := fun w hw => ⟨rfl, hw⟩))
  (refine QF.val0 (v := ?_) (by exact rfl) (by exact rfl) (fun w1 g1 => ?_) ?_; rotate_left)
  · repeat (first | refine L.nil ?_ | refine L.cm (c := ?_) | refine L.want (k := ?_) | exact D.endsJ (hJ := fun w hw => ⟨rfl, hw⟩))
  (refine QF.val0 (v := ?_) (by exact rfl) (by exact rfl) (fun w1 g1 => ?_) ?_; rotate_left)
  · repeat (first | refine L.nil ?_ | refine L.pickT (k := ?_) | exact D.endsJ (hJ := fun w hw => ⟨rfl, hw⟩))
  (refine QF.val0 (v := ?_) (by exact rfl) (by exact rfl) (fun w1 g1 => ?_) ?_; rotate_left)
  · repeat (first | refine L.nil ?_ | refine L.move (k := ?_) | exact D.endsJ (hJ := fun w hw => ⟨rfl, hw⟩))
  (refine QF.val0 (v := ?_) (by exact rfl) (by exact rfl) (fun w1 g1 => ?_) ?_; rotate_left)
  · repeat (first | refine L.nil ?_ | refine L.move (k := ?_) | refine L.want (k := ?_) | exact D.endsJ (hJ := fun w hw => ⟨rfl, hw⟩))
  refine QF.mk0 (fun w u => Rd w (keys ([] : Hp)) u 2 (([1, 1] : List Int).map u64)) (hR := fun w w' u hw hR => hR.base hw _ (fun _ h => h)) (h := fun w1 g1 => ?_) (k := ?_)
  · repeat (first | refine L.nil ?_ | refine L.want (k := ?_) | refine L.buildS (c := fun _ => ?_))
    exact D.endsJ (hJ := fun w hw => ⟨Rd.own (hw.holds _ mem0) (by simp [keys]) (Nat.le_refl _) 2 rfl, At.rest (B := [_]) hw⟩)
  refine QF.mk1 7 (fun w u => ∃ r, Rd w (keys ([] : Hp)) u 1 [r] ∧ Rd w (keys ([] : Hp)) r 2 (([1, 1] : List Int).map u64)) (hR := fun w w' u hw ⟨r, h1, h2⟩ => ⟨r, h1.base hw _ (fun _ h => h), h2.base hw _ (fun _ h => h)⟩) (h := fun w1 v0 g1 r0 => ?_) (k := ?_)
  · obtain ⟨p0, c0, rfl, _, _⟩ := r0.1
    repeat (first | refine L.nil ?_ | refine L.want (k := ?_) | refine L.buildS (c := fun _ => ?_))
    exact D.endsJ (hJ := fun w hw => ⟨⟨_, Rd.own (hw.holds _ mem0) (by simp [keys]) (Nat.le_refl _) 1 rfl, (r0.at hw)⟩, At.rest (B := [_]) hw⟩)
  (refine QF.val1 8 (v := ?_) (by exact rfl) (by exact rfl) (by exact rfl) (by exact rfl) (fun w1 v0 g1 r0 => ?_) ?_; rotate_left)
  · obtain ⟨r, h1, h2⟩ := r0
    repeat (first | refine L.want (k := ?_))
    have kR := rowsEq_S xv1 v0 rx1 [(r, [1, 1])] (by have := congrArg List.length hm1; rw [List.length_map, e1.2.1] at this; have h1 : rx1.length = 1 := this; omega) (fun r hr => by
      have : r.2 ∈ rx1.map (·.2) := List.mem_map.2 ⟨r, hr, rfl⟩
      rw [hm1, e1.2.1, List.mem_singleton] at this
      rw [this]; decide)
    rw [decide_eq_true (show rx1.map (·.2) = ([(r, [1, 1])] : Rws).map (·.2) by rw [hm1, e1.2.1]; rfl)] at kR
    refine L.callQ kR (hpre := fun w1 hw => ⟨(rX1.at g1).at hw, rdR_one (h1.at hw) (h2.at hw)⟩) (k := ?_)
    exact L.nil (D.endsJ (hJ := fun w hw => ⟨rfl, hw⟩))
  (refine QF.val0 (v := ?_) (by exact rfl) (by exact rfl) (fun w1 g1 => ?_) ?_; rotate_left)
  · repeat (first | refine L.nil ?_ | refine L.pickT (k := ?_) | exact D.endsJ (hJ := fun w hw => ⟨rfl, hw⟩))
  (refine QF.val0 (v := ?_) (by exact rfl) (by exact rfl) (fun w1 g1 => ?_) ?_; rotate_left)
  · repeat (first | refine L.nil ?_ | refine L.move (k := ?_) | exact D.endsJ (hJ := fun w hw => ⟨rfl, hw⟩))
  (refine QF.val0 (v := ?_) (by exact rfl) (by exact rfl) (fun w1 g1 => ?_) ?_; rotate_left)
  · repeat (first | refine L.nil ?_ | refine L.move (k := ?_) | refine L.want (k := ?_) | exact D.endsJ (hJ := fun w hw => ⟨rfl, hw⟩))
  (refine QF.val0 (v := ?_) (by exact rfl) (by exact rfl) (fun w1 g1 => ?_) ?_; rotate_left)
  · repeat (first | refine L.nil ?_ | refine L.want (k := ?_) | exact D.endsJ (hJ := fun w hw => ⟨rfl, hw⟩) | refine L.lenR rL1.1 (c := ?_))
  (refine QF.val0 (v := ?_) (by exact rfl) (by exact rfl) (fun w1 g1 => ?_) ?_; rotate_left)
  · repeat (first | refine L.nil ?_ | refine L.cm (c := ?_) | refine L.want (k := ?_) | exact D.endsJ (hJ := fun w hw => ⟨rfl, hw⟩))
  (refine QF.val0 (v := ?_) (by exact rfl) (by exact rfl) (fun w1 g1 => ?_) ?_; rotate_left)
  · repeat (first | refine L.nil ?_ | refine L.pickT (k := ?_) | exact D.endsJ (hJ := fun w hw => ⟨rfl, hw⟩))
  (refine QF.val0 (v := ?_) (by exact rfl) (by exact rfl) (fun w1 g1 => ?_) ?_; rotate_left)
  · repeat (first | refine L.nil ?_ | refine L.move (k := ?_) | exact D.endsJ (hJ := fun w hw => ⟨rfl, hw⟩))
  (refine QF.val0 (v := ?_) (by exact rfl) (by exact rfl) (fun w1 g1 => ?_) ?_; rotate_left)
  · repeat (first | refine L.nil ?_ | refine L.move (k := ?_) | refine L.want (k := ?_) | exact D.endsJ (hJ := fun w hw => ⟨rfl, hw⟩))
  (refine QF.val0 (v := ?_) (by exact rfl) (by exact rfl) (fun w1 g1 => ?_) ?_; rotate_left)
  · repeat (first | refine L.nil ?_ | refine L.want (k := ?_) | exact D.endsJ (hJ := fun w hw => ⟨rfl, hw⟩) | refine L.indexR rL1.1 (k := 7) hlt7 (c := ?_))
  (refine QF.val0 (v := ?_) (by exact rfl) (by exact rfl) (fun w1 g1 => ?_) ?_; rotate_left)
  · repeat (first | refine L.nil ?_ | refine L.fieldAddr (c := ?_) | refine L.want (k := ?_) | exact D.endsJ (hJ := fun w hw => ⟨rfl, hw⟩))
  (refine QF.val0 (v := ?_) (by exact rfl) (by exact rfl) (fun w1 g1 => ?_) ?_; rotate_left)
  · have oE1 := (rL1.at g1).2 (by omega)
    repeat (first | refine L.nil ?_ | refine L.want (k := ?_) | exact D.endsJ (hJ := fun w hw => ⟨rfl, hw⟩) | refine L.loadF oE1 fe (c := ?_))
  (refine QF.val0 (v := ?_) (by exact rfl) (by exact rfl) (fun w1 g1 => ?_) ?_; rotate_left)
  · repeat (first | refine L.nil ?_ | refine L.cm (c := ?_) | refine L.want (k := ?_) | exact D.endsJ (hJ := fun w hw => ⟨rfl, hw⟩))
  (refine QF.val0 (v := ?_) (by exact rfl) (by exact rfl) (fun w1 g1 => ?_) ?_; rotate_left)
  · repeat (first | refine L.nil ?_ | refine L.pickT (k := ?_) | exact D.endsJ (hJ := fun w hw => ⟨rfl, hw⟩))
  (refine QF.val0 (v := ?_) (by exact rfl) (by exact rfl) (fun w1 g1 => ?_) ?_; rotate_left)
  · repeat (first | refine L.nil ?_ | refine L.move (k := ?_) | exact D.endsJ (hJ := fun w hw => ⟨rfl, hw⟩))
  (refine QF.val0 (v := ?_) (by exact rfl) (by exact rfl) (fun w1 g1 => ?_) ?_; rotate_left)
  · repeat (first | refine L.nil ?_ | refine L.move (k := ?_) | refine L.want (k := ?_) | exact D.endsJ (hJ := fun w hw => ⟨rfl, hw⟩))
  (refine QF.val0 (v := ?_) (by exact rfl) (by exact rfl) (fun w1 g1 => ?_) ?_; rotate_left)
  · repeat (first | refine L.nil ?_ | refine L.cm (c := ?_) | refine L.want (k := ?_) | exact D.endsJ (hJ := fun w hw => ⟨rfl, hw⟩))
  (refine QF.val0 (v := ?_) (by exact rfl) (by exact rfl) (fun w1 g1 => ?_) ?_; rotate_left)
  · repeat (first | refine L.nil ?_ | refine L.pickT (k := ?_) | exact D.endsJ (hJ := fun w hw => ⟨rfl, hw⟩))
  (refine QF.val0 (v := ?_) (by exact rfl) (by exact rfl) (fun w1 g1 => ?_) ?_; rotate_left)
  · repeat (first | refine L.nil ?_ | refine L.move (k := ?_) | exact D.endsJ (hJ := fun w hw => ⟨rfl, hw⟩))
  (refine QF.val0 (v := ?_) (by exact rfl) (by exact rfl) (fun w1 g1 => ?_) ?_; rotate_left)
  · repeat (first | refine L.nil ?_ | refine L.move (k := ?_) | refine L.want (k := ?_) | exact D.endsJ (hJ := fun w hw => ⟨rfl, hw⟩))
  (refine QF.val0 (v := ?_) (by exact rfl) (by exact rfl) (fun w1 g1 => ?_) ?_; rotate_left)
  · repeat (first | refine L.nil ?_ | refine L.want (k := ?_) | exact D.endsJ (hJ := fun w hw => ⟨rfl, hw⟩) | refine L.lenR rL2.1 (c := ?_))
  (refine QF.val0 (v := ?_) (by exact rfl) (by exact rfl) (fun w1 g1 => ?_) ?_; rotate_left)
  · repeat (first | refine L.nil ?_ | refine L.cm (c := ?_) | refine L.want (k := ?_) | exact D.endsJ (hJ := fun w hw => ⟨rfl, hw⟩))
  (refine QF.val0 (v := ?_) (by exact rfl) (by exact rfl) (fun w1 g1 => ?_) ?_; rotate_left)
  · repeat (first | refine L.nil ?_ | refine L.pickT (k := ?_) | exact D.endsJ (hJ := fun w hw => ⟨rfl, hw⟩))
  (refine QF.val0 (v := ?_) (by exact rfl) (by exact rfl) (fun w1 g1 => ?_) ?_; rotate_left)
  · repeat (first | refine L.nil ?_ | refine L.move (k := ?_) | exact D.endsJ (hJ := fun w hw => ⟨rfl, hw⟩))
  (refine QF.val0 (v := ?_) (by exact rfl) (by exact rfl) (fun w1 g1 => ?_) ?_; rotate_left)
  · repeat (first | refine L.nil ?_ | refine L.move (k := ?_) | refine L.want (k := ?_) | exact D.endsJ (hJ := fun w hw => ⟨rfl, hw⟩))
  (refine QF.val0 (v := ?_) (by exact rfl) (by exact rfl) (fun w1 g1 => ?_) ?_; rotate_left)
  · repeat (first | refine L.nil ?_ | refine L.cm (c := ?_) | refine L.want (k := ?_) | exact D.endsJ (hJ := fun w hw => ⟨rfl, hw⟩))
  (refine QF.val0 (v := ?_) (by exact rfl) (by exact rfl) (fun w1 g1 => ?_) ?_; rotate_left)
  · repeat (first | refine L.nil ?_ | refine L.pickT (k := ?_) | exact D.endsJ (hJ := fun w hw => ⟨rfl, hw⟩))
  (refine QF.val0 (v := ?_) (by exact rfl) (by exact rfl) (fun w1 g1 => ?_) ?_; rotate_left)
  · repeat (first | refine L.nil ?_ | refine L.move (k := ?_) | exact D.endsJ (hJ := fun w hw => ⟨rfl, hw⟩))
  (refine QF.val0 (v := ?_) (by exact rfl) (by exact rfl) (fun w1 g1 => ?_) ?_; rotate_left)
  · repeat (first | refine L.nil ?_ | refine L.move (k := ?_) | refine L.want (k := ?_) | exact D.endsJ (hJ := fun w hw => ⟨rfl, hw⟩))
  (refine QF.val0 (v := ?_) (by exact rfl) (by exact rfl) (fun w1 g1 => ?_) ?_; rotate_left)
  · repeat (first | refine L.nil ?_ | refine L.cm (c := ?_) | refine L.want (k := ?_) | exact D.endsJ (hJ := fun w hw => ⟨rfl, hw⟩))
  (refine QF.val0 (v := ?_) (by exact rfl) (by exact rfl) (fun w1 g1 => ?_) ?_; rotate_left)
  · repeat (first | refine L.nil ?_ | refine L.pickT (k := ?_) | exact D.endsJ (hJ := fun w hw => ⟨rfl, hw⟩))
  (refine QF.val0 (v := ?_) (by exact rfl) (by exact rfl) (fun w1 g1 => ?_) ?_; rotate_left)
  · repeat (first | refine L.nil ?_ | refine L.move (k := ?_) | exact D.endsJ (hJ := fun w hw => ⟨rfl, hw⟩))
  (refine QF.val0 (v := ?_) (by exact rfl) (by exact rfl) (fun w1 g1 => ?_) ?_; rotate_left)
  · have o7x := o7.at g1
    repeat (first | refine L.nil ?_ | refine L.want (k := ?_) | exact D.endsJ (hJ := fun w hw => ⟨rfl, hw⟩) | refine L.loadOA o7x (i := 0) (ho := rfl) (hi := Nat.le_refl 3) (hcs := rfl) (c := ?_) | refine L.loadF o7x (i := 2) rfl (c := ?_))
  (refine QF.val0 (v := ?_) (by exact rfl) (by exact rfl) (fun w1 g1 => ?_) ?_; rotate_left)
  · repeat (first | refine L.nil ?_ | refine L.want (k := ?_) | exact D.endsJ (hJ := fun w hw => ⟨rfl, hw⟩) | refine L.callQ kS1 (hpre := fun w1 hw => ⟨Rd.nil, (ro7.at g1).at hw⟩) (k := ?_))
  (refine QF.val0 (v := ?_) (by exact rfl) (by exact rfl) (fun w1 g1 => ?_) ?_; rotate_left)
  · repeat (first | refine L.nil ?_ | refine L.cm (c := ?_) | refine L.want (k := ?_) | exact D.endsJ (hJ := fun w hw => ⟨rfl, hw⟩))
  (refine QF.val0 (v := ?_) (by exact rfl) (by exact rfl) (fun w1 g1 => ?_) ?_; rotate_left)
  · repeat (first | refine L.nil ?_ | refine L.pickT (k := ?_) | exact D.endsJ (hJ := fun w hw => ⟨rfl, hw⟩))
  (refine QF.val0 (v := ?_) (by exact rfl) (by exact rfl) (fun w1 g1 => ?_) ?_; rotate_left)
  · repeat (first | refine L.nil ?_ | refine L.move (k := ?_) | exact D.endsJ (hJ := fun w hw => ⟨rfl, hw⟩))
  refine QF.mk0 (fun w u => ∃ xb xo, u = progV 2 xb xo ∧ Rd w (keys ([] : Hp)) xb 1 (xB.flatMap encB) ∧ Rd w (keys ([] : Hp)) xo 3 (xO.flatMap encO)) (hR := fun w w' u hw ⟨xb, xo, h1, h2, h3⟩ => ⟨xb, xo, h1, h2.base hw _ (fun _ h => h), h3.base hw _ (fun _ h => h)⟩) (h := fun w1 g1 => ?_) (k := ?_)
  · repeat (first | refine L.want (k := ?_))
    refine L.callP [] example12_S (k := ?_)
    rintro u B ⟨x1, x2, rfl, rfl⟩
    rw [hdrop_nil]
    refine L.nil (D.endsJ (hJ := fun w hw => ⟨⟨_, _, rfl, Rd.own (hw.holds _ mem1) (by simp [keys]) (Nat.le_refl _) 3 rfl, Rd.own (hw.holds _ mem0) (by simp [keys]) (Nat.le_refl _) 24 rfl⟩, At.rest (B := [_, _]) hw⟩))
  (refine QF.val1 46 (v := ?_) (by exact rfl) (by exact rfl) (by exact rfl) (by exact rfl) (fun w1 v0 g1 r0 => ?_) ?_; rotate_left)
  · obtain ⟨xb, xo, rfl, h1, h2⟩ := r0
    repeat (first | refine L.want (k := ?_))
    have kS2 := lsteps_S 2 xb xo xB xO (by unfold maxLen; decide)
    rw [nmS2] at kS2
    refine L.callQ kS2 (hpre := fun w1 hw => ⟨h1.at hw, h2.at hw⟩) (k := ?_)
    exact L.nil (D.endsJ (hJ := fun w hw => ⟨rfl, hw⟩))
  (refine QF.val0 (v := ?_) (by exact rfl) (by exact rfl) (fun w1 g1 => ?_) ?_; rotate_left)
  · repeat (first | refine L.nil ?_ | refine L.cm (c := ?_) | refine L.want (k := ?_) | exact D.endsJ (hJ := fun w hw => ⟨rfl, hw⟩))
  (refine QF.val0 (v := ?_) (by exact rfl) (by exact rfl) (fun w1 g1 => ?_) ?_; rotate_left)
  · repeat (first | refine L.nil ?_ | refine L.pickT (k := ?_) | exact D.endsJ (hJ := fun w hw => ⟨rfl, hw⟩))
  (refine QF.val0 (v := ?_) (by exact rfl) (by exact rfl) (fun w1 g1 => ?_) ?_; rotate_left)
  · repeat (first | refine L.nil ?_ | refine L.move (k := ?_) | exact D.endsJ (hJ := fun w hw => ⟨rfl, hw⟩))
  refine QF.mk0 (fun w u => ∃ xb xo, u = progV 2 xb xo ∧ Rd w (keys ([] : Hp)) xb 1 (xB.flatMap encB) ∧ Rd w (keys ([] : Hp)) xo 3 (xO.flatMap encO)) (hR := fun w w' u hw ⟨xb, xo, h1, h2, h3⟩ => ⟨xb, xo, h1, h2.base hw _ (fun _ h => h), h3.base hw _ (fun _ h => h)⟩) (h := fun w1 g1 => ?_) (k := ?_)
  · repeat (first | refine L.want (k := ?_))
    refine L.callP [] example12_S (k := ?_)
    rintro u B ⟨x1, x2, rfl, rfl⟩
    rw [hdrop_nil]
    refine L.nil (D.endsJ (hJ := fun w hw => ⟨⟨_, _, rfl, Rd.own (hw.holds _ mem1) (by simp [keys]) (Nat.le_refl _) 3 rfl, Rd.own (hw.holds _ mem0) (by simp [keys]) (Nat.le_refl _) 24 rfl⟩, At.rest (B := [_, _]) hw⟩))
  refine QF.mk1 51 (fun w u => Rd w (keys ([] : Hp)) u 3 (([2, -1, 0] : List Int).map int)) (hR := fun w w' u hw hR => hR.base hw _ (fun _ h => h)) (h := fun w1 v0 g1 r0 => ?_) (k := ?_)
  · obtain ⟨xb, xo, rfl, h1, h2⟩ := r0
    repeat (first | refine L.want (k := ?_))
    refine L.callP [] (lEnds_S 2 xb xo xB xO (by unfold maxLen; decide)) (hpre := fun w hw => ⟨h1.at hw, h2.at hw⟩) (k := ?_)
    intro u B hv
    rw [hdrop_nil]
    refine L.nil (D.endsJ (hJ := fun w hw => ?_))
    obtain ⟨en, rfl, hen⟩ := ends_read (M := []) hv hw
    have hne : endsL 2 xB xO = [2, -1, 0] := nmE
    rw [hne] at hen
    exact ⟨hen, hw.rest⟩
  refine QF.mk0 (fun w u => Rd w (keys ([] : Hp)) u 3 (([2, -1, 0] : List Int).map int)) (hR := fun w w' u hw hR => hR.base hw _ (fun _ h => h)) (h := fun w1 g1 => ?_) (k := ?_)
  · repeat (first | refine L.nil ?_ | refine L.want (k := ?_) | refine L.buildS (c := fun _ => ?_))
    exact D.endsJ (hJ := fun w hw => ⟨Rd.own (hw.holds _ mem0) (by simp [keys]) (Nat.le_refl _) 3 rfl, At.rest (B := [_]) hw⟩)
  (refine QF.val2 52 53 (v := ?_) (by exact rfl) (by exact rfl) (by exact rfl) (by exact rfl) (by exact rfl) (by exact rfl) (fun w1 v0 v1 g1 r0 r1 => ?_) ?_; rotate_left)
  · repeat (first | refine L.want (k := ?_))
    have kE := sameI_S v0 v1 [2, -1, 0] [2, -1, 0] (by decide)
    rw [decide_eq_true rfl] at kE
    refine L.callQ kE (hpre := fun w1 hw => ⟨r0.at hw, r1.at hw⟩) (k := ?_)
    exact L.nil (D.endsJ (hJ := fun w hw => ⟨rfl, hw⟩))
  (refine QF.val0 (v := ?_) (by exact rfl) (by exact rfl) (fun w1 g1 => ?_) ?_; rotate_left)
  · repeat (first | refine L.nil ?_ | refine L.pickT (k := ?_) | exact D.endsJ (hJ := fun w hw => ⟨rfl, hw⟩))
  (refine QF.val0 (v := ?_) (by exact rfl) (by exact rfl) (fun w1 g1 => ?_) ?_; rotate_left)
  · repeat (first | refine L.nil ?_ | refine L.move (k := ?_) | exact D.endsJ (hJ := fun w hw => ⟨rfl, hw⟩))
  (refine QF.val0 (v := ?_) (by exact rfl) (by exact rfl) (fun w1 g1 => ?_) ?_; rotate_left)
  · have o10x := o10.at g1
    repeat (first | refine L.nil ?_ | refine L.want (k := ?_) | exact D.endsJ (hJ := fun w hw => ⟨rfl, hw⟩) | refine L.loadOA o10x (i := 0) (ho := rfl) (hi := Nat.le_refl 3) (hcs := rfl) (c := ?_) | refine L.loadF o10x (i := 2) rfl (c := ?_))
  refine QF.mk0 (fun w u => ∃ xb xo, u = progV 2 xb xo ∧ Rd w (keys ([] : Hp)) xb xB.length (xB.flatMap encB) ∧ Rd w (keys ([] : Hp)) xo (xO ++ nmP).length ((xO ++ nmP).flatMap encO)) (hR := fun w w' u hw ⟨xb, xo, h1, h2, h3⟩ => ⟨xb, xo, h1, h2.base hw _ (fun _ h => h), h3.base hw _ (fun _ h => h)⟩) (h := fun w1 g1 => ?_) (k := ?_)
  · repeat (first | refine L.want (k := ?_))
    refine L.callP [] (lcopy_S 2 (.slice (some ⟨b10, 0, none⟩) 1 1) (osV (xO ++ nmP).length y10) xB.length (xO ++ nmP).length (xB.flatMap encB) ((xO ++ nmP).flatMap encO) (flat_len encB_len _) (flat_len encO_len _) (ones_flat ones_B _) (ones_flat ones_O _) (by decide) (by decide) rb10.1 ro10.1) (hpre := fun w hw => ⟨(rb10.at g1).at hw, (ro10.at g1).at hw⟩) (k := ?_)
    rintro u B ⟨ja, jb, ga, gb, rfl, rfl⟩
    rw [hdrop_nil]
    refine L.nil (D.endsJ (hJ := fun w hw => ?_))
    refine ⟨⟨_, _, rfl, ga.rdk (T := 33) hw (fun x hx => ?_) (fun x hx => hw.notin ?_), gb.rdk (T := 39) hw (fun x hx => ?_) (fun x hx => hw.notin ?_)⟩, hw.rest⟩
    all_goals (rw [osC_app 33 ja (osC 39 jb [])]; simp [hx])
  (refine QF.val0 (v := ?_) (by exact rfl) (by exact rfl) (fun w1 g1 => ?_) ?_; rotate_left)
  · have o10x := o10.at g1
    repeat (first | refine L.nil ?_ | refine L.want (k := ?_) | exact D.endsJ (hJ := fun w hw => ⟨rfl, hw⟩) | refine L.loadOA o10x (i := 0) (ho := rfl) (hi := Nat.le_refl 3) (hcs := rfl) (c := ?_) | refine L.loadF o10x (i := 2) rfl (c := ?_))
  (refine QF.val1 58 (v := ?_) (by exact rfl) (by exact rfl) (by exact rfl) (by exact rfl) (fun w1 v0 g1 r0 => ?_) ?_; rotate_left)
  · obtain ⟨xb, xo, rfl, h1, h2⟩ := r0
    repeat (first | refine L.want (k := ?_))
    have kA := lsame_S 2 2 xb xo (.slice (some ⟨b10, 0, none⟩) 1 1) (osV (xO ++ nmP).length y10) xB xB (xO ++ nmP) (xO ++ nmP) (by decide) (by decide)
    rw [decide_eq_true ⟨rfl, rfl, rfl⟩] at kA
    refine L.callQ kA (hpre := fun w1 hw => ⟨⟨h1.at hw, h2.at hw⟩, (rb10.at g1).at hw, (ro10.at g1).at hw⟩) (k := ?_)
    exact L.nil (D.endsJ (hJ := fun w hw => ⟨rfl, hw⟩))
  (refine QF.val0 (v := ?_) (by exact rfl) (by exact rfl) (fun w1 g1 => ?_) ?_; rotate_left)
  · repeat (first | refine L.nil ?_ | refine L.pickT (k := ?_) | exact D.endsJ (hJ := fun w hw => ⟨rfl, hw⟩))
  (refine QF.val0 (v := ?_) (by exact rfl) (by exact rfl) (fun w1 g1 => ?_) ?_; rotate_left)
  · repeat (first | refine L.nil ?_ | refine L.move (k := ?_) | exact D.endsJ (hJ := fun w hw => ⟨rfl, hw⟩))
  (refine QF.val0 (v := ?_) (by exact rfl) (by exact rfl) (fun w1 g1 => ?_) ?_; rotate_left)
  · have o10x := o10.at g1
    repeat (first | refine L.nil ?_ | refine L.want (k := ?_) | exact D.endsJ (hJ := fun w hw => ⟨rfl, hw⟩) | refine L.loadOA o10x (i := 0) (ho := rfl) (hi := Nat.le_refl 3) (hcs := rfl) (c := ?_) | refine L.loadF o10x (i := 2) rfl (c := ?_))
  (refine QF.val0 (v := ?_) (by exact rfl) (by exact rfl) (fun w1 g1 => ?_) ?_; rotate_left)
  · have o14x := o14.at g1
    repeat (first | refine L.nil ?_ | refine L.want (k := ?_) | exact D.endsJ (hJ := fun w hw => ⟨rfl, hw⟩) | refine L.loadOA o14x (i := 0) (ho := rfl) (hi := Nat.le_refl 3) (hcs := rfl) (c := ?_) | refine L.loadF o14x (i := 2) rfl (c := ?_))
  (refine QF.val0 (v := ?_) (by exact rfl) (by exact rfl) (fun w1 g1 => ?_) ?_; rotate_left)
  · repeat (first | refine L.nil ?_ | refine L.want (k := ?_) | exact D.endsJ (hJ := fun w hw => ⟨rfl, hw⟩) | refine L.callQ kB (hpre := fun w1 hw => ⟨⟨(rb10.at g1).at hw, (ro10.at g1).at hw⟩, (rb14.at g1).at hw, (ro14.at g1).at hw⟩) (k := ?_))
  (refine QF.val0 (v := ?_) (by exact rfl) (by exact rfl) (fun w1 g1 => ?_) ?_; rotate_left)
  · repeat (first | refine L.nil ?_ | refine L.want (k := ?_) | refine L.not (c := ?_) | exact D.endsJ (hJ := fun w hw => ⟨rfl, hw⟩))
  (refine QF.val0 (v := ?_) (by exact rfl) (by exact rfl) (fun w1 g1 => ?_) ?_; rotate_left)
  · repeat (first | refine L.nil ?_ | refine L.pickT (k := ?_) | exact D.endsJ (hJ := fun w hw => ⟨rfl, hw⟩))
  (refine QF.val0 (v := ?_) (by exact rfl) (by exact rfl) (fun w1 g1 => ?_) ?_; rotate_left)
  · repeat (first | refine L.nil ?_ | refine L.assign (k := ?_) | exact D.endsJ (hJ := fun w hw => ⟨rfl, hw⟩))
  refine QF.fin0 [(false, []), (false, []), (false, []), (false, []), (false, []), (false, []), (false, []), (true, []), (true, [7]), (false, [8]), (false, []), (false, []), (false, []), (false, []), (false, []), (false, []), (false, []), (false, []), (false, []), (false, []), (false, []), (false, []), (false, []), (false, []), (false, []), (false, []), (false, []), (false, []), (false, []), (false, []), (false, []), (false, []), (false, []), (false, []), (false, []), (false, []), (false, []), (false, []), (false, []), (false, []), (false, []), (false, []), (false, []), (false, []), (false, []), (false, []), (true, []), (false, [46]), (false, []), (false, []), (false, []), (true, []), (true, [51]), (true, []), (false, [52, 53]), (false, []), (false, []), (false, []), (true, []), (false, []), (false, [58]), (false, []), (false, []), (false, []), (false, []), (false, []), (false, []), (false, []), (false, [])] (k := fun w1 h1 => ?_)
  repeat' (first | refine C.ret ?_ | refine D.seqR (h := ?_))
  (refine D.ret (vs := [_]) (RV.tmp rfl RV.nil) ?_; intro w' hw; exact Post.mkD 0 (bk _ _ (At.onto h1 hw)) rfl ⟨rfl, rfl⟩)
theorem names_walk (w : World) : Calls Try.prog 11 #[] w fun e w' => e = .returned (.bool true) ∧ Below w.heap.size w w' := namesLaw_S.true w trivial
end Go.Proofs.Ytkjlgapkcdcmgaa
