/- The law's own reading of decode.Each (keysmithlaw07.each): places and instructions in two slices. Conditions: the code is short. -/
import Derived.Test.YtakmpnmmcjnecaaRcG
import Derived.Test.YtakmpnmmcjnecaaSepGZ
import Derived.Test.YtakmpnmmcjnecaaSepF
set_option linter.unusedVariables false
set_option linter.unusedSimpArgs false
namespace Go.Proofs.Ytakmpnmmcjnecaa
open Go.RowKit Calm SL
attribute [local irreducible] SL.L SL.C SL.D SL.N SL.H SL.QP

theorem ones_i (a : Int) : ones [.int .i64 a] := by intro u hu; simp only [List.mem_cons, List.not_mem_nil, or_false] at hu; subst hu; rfl
theorem ones_9 (x : Ins) : ones (cells9 x) := by
  intro u hu
  simp only [cells9, List.mem_cons, List.not_mem_nil, or_false] at hu
  rcases hu with rfl | rfl | rfl | rfl | rfl | rfl | rfl | rfl | rfl <;> rfl
theorem perm_each {α : Type} (p x v q r s t l : α) (a c : List α) : (p :: x :: v :: q :: r :: s :: t :: ((a ++ c) ++ [l])).Perm (a ++ (c ++ (v :: x :: [p, q, r, s, t, l]))) := by
  have h1 : ([p, x, v, q, r, s, t] ++ ((a ++ c) ++ [l])).Perm (((a ++ c) ++ [l]) ++ [p, x, v, q, r, s, t]) := List.perm_append_comm
  refine h1.trans ?_
  rw [List.append_assoc, List.append_assoc]
  refine List.Perm.append_left _ (List.Perm.append_left _ ?_)
  have h2 : ([l] ++ [p, x, v, q, r, s, t]).Perm ([p, x, v, q, r, s, t] ++ [l]) := List.perm_append_comm
  refine h2.trans ?_
  show (p :: x :: v :: [q, r, s, t, l]).Perm (v :: x :: p :: [q, r, s, t, l])
  exact (List.Perm.swap x p _).trans ((List.Perm.cons x (List.Perm.swap v p _)).trans (List.Perm.swap v x _))
theorem perm_six {α : Type} (d x v p q r : α) (t : List α) : (d :: x :: v :: p :: q :: r :: t).Perm (r :: q :: p :: d :: x :: v :: t) := by
  have h1 : ([d, x, v] ++ [p, q, r]).Perm ([p, q, r] ++ [d, x, v]) := List.perm_append_comm
  have h2 : ([p, q, r] ++ [d, x, v]).Perm ([r, q, p] ++ [d, x, v]) := (List.reverse_perm [p, q, r]).symm.append_right _
  exact (h1.trans h2).append_right t
/-- The places read. -/
def atsOf (l : List (Nat × Ins)) : List Value := l.flatMap fun x => [.int .i64 (x.1 : Int)]
def insOf (l : List (Nat × Ins)) : List Value := l.flatMap fun x => cells9 x.2
abbrev eMI (vx va r4 r3 r2 bt : Nat) (code : ByteArray) (n : Nat) (y : OS × OS) : Hp :=
  (vx, ob [osV n y.2] 38) :: (va, ob [osV n y.1] 51) :: (r4, ob [.bool false] 4) :: (r3, ob [.slice none 0 0] 38) :: (r2, ob [.slice none 0 0] 51) :: (bt, ob [.string code] 9) :: (osC 3 y.1 [] ++ osC 25 y.2 [])
set_option maxRecDepth 100000 in
set_option maxHeartbeats 8000000 in
theorem leach_S (code : ByteArray) (hl : code.size ≤ 1000000) : Ctr Try.prog 31 [.string code] [] tt (fun v B => ∃ y : OS × OS, osG 1 (rows (bytesOf code) 0).length (atsOf (rows (bytesOf code) 0)) y.1 ∧ osG 9 (rows (bytesOf code) 0).length (insOf (rows (bytesOf code) 0)) y.2 ∧
    v = .tuple #[osV (rows (bytesOf code) 0).length y.1, osV (rows (bytesOf code) 0).length y.2, .bool true] ∧ B = osC 3 y.1 [] ++ osC 25 y.2 []) := by
  have hrl := rows_length (bytesOf code) 0
  rw [bytesOf_length] at hrl
  refine Ctr.enterM Try.func31 Try.ntmps31 rfl rfl (fun w _ => ?_)
  repeat (first | refine C.seq ?_ | refine C.region ?_ | refine L.nil ?_ | refine D.seq ?_ | refine L.move (k := ?_) | refine L.assign (k := ?_) | refine L.load1 3 (c := ?_) | refine L.alloc (c := fun _ => ?_) | refine L.box (c := fun _ => ?_) | refine C.no (h1 := ?_) | refine C.block ?_ | refine C.skip ?_ | refine L.funNil (c := ?_) | (refine L.callP [] (each_S code) (by exact rfl) (by exact rfl) (by exact rfl) (by decide) (fun _ _ => trivial) ?_; rintro v B ⟨bs, rfl, rfl⟩; rw [hdrop_nil, List.singleton_append]))
  rename_i bt r2 r3 r4 va vx
  refine C.range (α := Nat × Ins) (β := OS × OS) (by exact rfl) (by exact rfl) encR [0, 1, 3, 4, 5, 6] (by exact rfl) (by decide) (V := fun pre x => ∃ r, rows (bytesOf code) 0 = pre ++ x :: r) (S := fun xs => xs = rows (bytesOf code) 0) (Sp := fun pre => ∃ r, rows (bytesOf code) 0 = pre ++ r)
    (fun w' hw' => each1_seq code hl w' bs (hw'.holds (bs, _) (hat_mem (i := 2) rfl)) _ (by have := hw'.nodup; simp [keys] at this ⊢; omega))
    (fun _ => rfl) (by exact rfl) (fun pre y => osG 1 pre.length (atsOf pre) y.1 ∧ osG 9 pre.length (insOf pre) y.2) (fun pre y => eMI vx va r4 r3 r2 bt code pre.length y)
    (fun _ _ _ => False) (fun _ _ _ => []) (fun pre y => by obtain ⟨ya, yx⟩ := y; rcases ya with _ | ⟨_, _, _⟩ <;> rcases yx with _ | ⟨_, _, _⟩ <;> rfl) (fun _ _ _ => rfl) (none, none) ⟨osG.nil, osG.nil⟩ (by exact rfl) ?_ ?_ ?_
  · rintro l w1 W rec pre ⟨k, x⟩ ⟨ya, yx⟩ hw1 hA ⟨hG1, hG2⟩ ⟨r, hr⟩
    have hlen : pre.length < (rows (bytesOf code) 0).length := by rw [hr, List.length_append, List.length_cons]; omega
    have c1 : cm .gtr (pre.length : Int) code.size = false := cm_gt' (by omega)
    simp only [pe, encR, List.cons_append, List.nil_append] at hG1 hG2 ⊢
    repeat (first | refine C.seq ?_ | refine C.region ?_ | refine L.nil ?_ | refine D.seq ?_ | refine L.assign (k := ?_) | refine L.storeV 0 (c := ?_) | refine L.alloc (c := fun _ => ?_))
    rename_i b9
    obtain ⟨f1, f2, f3, f4⟩ : True ∧ True ∧ True ∧ True := ⟨trivial, trivial, trivial, trivial⟩
    have hm1 : pre.length + 1 ≤ maxLen := by unfold maxLen; omega
    have sx := hG2.sl
    refine D.begin (7 + (osC 3 ya [] ++ osC 25 yx []).length) (by rcases ya with _ | ⟨_, _, _⟩ <;> rcases yx with _ | ⟨_, _, _⟩ <;> exact rfl) (M' := (b9, ob [.int .i64 x.op, .int .i64 x.d, .int .i64 x.s, .int .i64 x.t, .int .i64 x.mb, .int .i64 x.mi, .int .i64 x.ms, .int .i64 x.md, .int .i64 x.imm] 25) :: (eMI vx va r4 r3 r2 bt code pre.length (ya, yx) ++ [(l, .loop { rec with state := .busy })])) (by rcases ya with _ | ⟨_, _, _⟩ <;> rcases yx with _ | ⟨_, _, _⟩ <;> exact rfl) (by exact rfl) ?_
    simp only [List.cons_append]
    repeat' (first | refine L.lenR sx (c := ?_) | refine C.make [(b9, ob [.int .i64 x.op, .int .i64 x.d, .int .i64 x.s, .int .i64 x.t, .int .i64 x.mb, .int .i64 x.mi, .int .i64 x.ms, .int .i64 x.md, .int .i64 x.imm] 25), (r4, ob [.bool false] 4), (r3, ob [.slice none 0 0] 38), (r2, ob [.slice none 0 0] 51), (bt, ob [.string code] 9), (l, .loop { rec with state := .busy })] (by kernel_rfl) (h := ?_) | refine C.seq ?_ | refine C.region ?_ | refine L.nil ?_ | refine D.seq ?_ | refine L.cm (c := ?_) | refine L.load1 1 (c := ?_) | refine C.no (h1 := ?_) | refine L.lenS (c := ?_) | refine C.block ?_ | refine C.skip ?_ | refine L.load1 5 (c := ?_) | refine L.load1 6 (c := ?_) | refine L.load1 7 (c := ?_) | refine L.loadA 5 (c := ?_) | refine L.loadA 6 (c := ?_) | refine L.loadA 7 (c := ?_) | refine L.storeV 5 (c := ?_) | refine L.storeV 6 (c := ?_) | refine L.storeV 7 (c := ?_))
    (refine QP.quietI (v := ?_) [8] [(va, ob [osV pre.length ya] 51)] (by exact rfl) (by exact rfl) (fun w4 g4 => ?_) ?_; rotate_left)
    · simp only [List.cons_append, List.nil_append]
      repeat (first | refine L.nil ?_ | refine L.load1 0 (c := ?_) | exact D.endsQ | exact D.endsQ)
    (refine QP.quiet (v := ?_) (by exact rfl) (by exact rfl) (fun w4 g4 => ?_) ?_; rotate_left); repeat (first | refine L.nil ?_ | refine L.move (k := ?_) | exact D.endsQ | exact D.endsQ)
    refine QP.mk0 [] (fun F B => ∃ nb, F = [(24, .slice (some ⟨nb, 0, none⟩) 1 1)] ∧ B = [(nb, ob [.int .i64 k] 3)]) (h := fun w4 g4 => ?_) (k := ?_)
    · rw [List.nil_append]
      repeat (first | refine L.nil ?_ | refine L.buildS (c := fun _ => ?_))
      exact D.endsP1 [_] (hR := ⟨_, rfl, rfl⟩)
    refine QP.mk1 2 (osC 3 ya []) (fun F B => ∃ nb y', osG 1 (pre.length + 1) (atsOf pre ++ [.int .i64 k]) y' ∧ F = [(25, osV (pre.length + 1) y')] ∧ B = (nb, ob [.int .i64 k] 3) :: osC 3 y' []) (h := ?_) (k := ?_)
    · rintro F B ⟨nb, rfl, rfl⟩ w4 g4
      refine L.appendU [(nb, ob [.int .i64 k] 3)] (y := ya) (m := pre.length) (u := .slice (some ⟨nb, 0, none⟩) 1 1) (k := 1) (news := [.int .i64 k]) hG1 (congrArg (fun z => (nb, ob [.int .i64 k] 3) :: z) (osC_app _ _ _).symm) (fun w hw => Rd.own (hw.holds _ List.mem_cons_self) (by simp) (Nat.le_refl _) 1 rfl) rfl (ones_i _) hm1 (by omega) (c := fun y' hG' _ => ?_)
      refine L.nil ?_
      exact D.endsP1 ((nb, ob [.int .i64 k] 3) :: osC 3 y' []) (hM := congrArg (fun z => (nb, ob [.int .i64 k] 3) :: z) (osC_app _ _ _)) (hR := ⟨nb, y', hG', rfl, rfl⟩)
    (refine QP.quietI (v := ?_) [9] [(vx, ob [osV pre.length yx] 38)] (by exact rfl) (by exact rfl) (fun w4 g4 => ?_) ?_; rotate_left)
    · simp only [List.cons_append, List.nil_append]
      repeat (first | refine L.nil ?_ | refine L.load1 0 (c := ?_) | exact D.endsQ | exact D.endsQ)
    (refine QP.quiet (v := ?_) (by exact rfl) (by exact rfl) (fun w4 g4 => ?_) ?_; rotate_left); repeat (first | refine L.nil ?_ | refine L.loadA 0 (c := ?_) | exact D.endsQ | exact D.endsQ)
    refine QP.mk0 [] (fun F B => ∃ nb, F = [(28, .slice (some ⟨nb, 0, none⟩) 1 1)] ∧ B = [(nb, ob (cells9 x) 25)]) (h := fun w4 g4 => ?_) (k := ?_)
    · rw [List.nil_append]
      repeat (first | refine L.nil ?_ | refine L.buildS (c := fun _ => ?_))
      exact D.endsP1 [_] (hR := ⟨_, rfl, rfl⟩)
    refine QP.mk1 6 (osC 25 yx []) (fun F B => ∃ nb y', osG 9 (pre.length + 1) (insOf pre ++ cells9 x) y' ∧ F = [(29, osV (pre.length + 1) y')] ∧ B = (nb, ob (cells9 x) 25) :: osC 25 y' []) (h := ?_) (k := ?_)
    · rintro F B ⟨nb, rfl, rfl⟩ w4 g4
      refine L.appendU [(nb, ob (cells9 x) 25)] (y := yx) (m := pre.length) (u := .slice (some ⟨nb, 0, none⟩) 1 1) (k := 1) (news := cells9 x) hG2 (congrArg (fun z => (nb, ob (cells9 x) 25) :: z) (osC_app _ _ _).symm) (fun w hw => Rd.own (hw.holds _ List.mem_cons_self) (by simp) (Nat.le_refl _) 9 rfl) rfl (ones_9 _) hm1 (by omega) (c := fun y' hG' _ => ?_)
      refine L.nil ?_
      exact D.endsP1 ((nb, ob (cells9 x) 25) :: osC 25 y' []) (hM := congrArg (fun z => (nb, ob (cells9 x) 25) :: z) (osC_app _ _ _)) (hR := ⟨nb, y', hG', rfl, rfl⟩)
    refine QP.mk1 3 [(va, ob [osV pre.length ya] 51)] (fun F B => ∃ nb y', osG 1 (pre.length + 1) (atsOf pre ++ [.int .i64 k]) y' ∧ F = [] ∧ B = (nb, ob [.int .i64 k] 3) :: (va, ob [osV (pre.length + 1) y'] 51) :: osC 3 y' []) (h := ?_) (k := ?_)
    · rintro F B ⟨nb, y', hG', rfl, rfl⟩ w4 g4
      refine L.perm (M' := (nb, ob [.int .i64 k] 3) :: (va, ob [osV pre.length ya] 51) :: (osC 3 y' [] ++ _)) (List.Perm.cons _ List.perm_middle.symm) ?_
      refine L.storeV 1 (hc := osV_cells _ _) (ho := osV_one _ _) (hl := rfl) (hM := rfl) (c := ?_)
      refine L.nil ?_
      exact D.endsP0 [] ((nb, ob [.int .i64 k] 3) :: (va, ob [osV (pre.length + 1) y'] 51) :: osC 3 y' []) (hM := rfl) (hF := fun _ _ h => by cases h) (hR := ⟨nb, y', hG', rfl, rfl⟩)
    refine QP.mk1 7 [(vx, ob [osV pre.length yx] 38)] (fun F B => ∃ nb y', osG 9 (pre.length + 1) (insOf pre ++ cells9 x) y' ∧ F = [] ∧ B = (nb, ob (cells9 x) 25) :: (vx, ob [osV (pre.length + 1) y'] 38) :: osC 25 y' []) (h := ?_) (k := ?_)
    · rintro F B ⟨nb, y', hG', rfl, rfl⟩ w4 g4
      refine L.perm (M' := (nb, ob (cells9 x) 25) :: (vx, ob [osV pre.length yx] 38) :: (osC 25 y' [] ++ _)) (List.Perm.cons _ List.perm_middle.symm) ?_
      refine L.storeV 1 (hc := osV_cells _ _) (ho := osV_one _ _) (hl := rfl) (hM := rfl) (c := ?_)
      refine L.nil ?_
      exact D.endsP0 [] ((nb, ob (cells9 x) 25) :: (vx, ob [osV (pre.length + 1) y'] 38) :: osC 25 y' []) (hM := rfl) (hF := fun _ _ h => by cases h) (hR := ⟨nb, y', hG', rfl, rfl⟩)
    refine QP.fin2 [none, none, some [], some [2], none, none, some [], some [6], some [3], some [7]] 8 9 (nds := [[8], [], [], [], [9], [], [], [], [], []]) (hM := by simp only [List.reverse_cons, List.reverse_nil, List.nil_append, List.cons_append, List.flatMap_cons, List.flatMap_nil, Pl.ini, List.append_nil, List.append_assoc]; have := perm_each (b9, ob [.int .i64 x.op, .int .i64 x.d, .int .i64 x.s, .int .i64 x.t, .int .i64 x.mb, .int .i64 x.mi, .int .i64 x.ms, .int .i64 x.md, .int .i64 x.imm] 25) (vx, ob [osV pre.length yx] 38) (va, ob [osV pre.length ya] 51) (r4, ob [.bool false] 4) (r3, ob [.slice none 0 0] 38) (r2, ob [.slice none 0 0] 51) (bt, ob [.string code] 9) (l, Obj.loop { rec with state := .busy }) (osC 3 ya []) (osC 25 yx []); rw [List.append_assoc] at this; exact this) (k := ?_)
    rintro F1 B1 F2 B2 ⟨nb1, y1, g1, rfl, rfl⟩ ⟨nb2, y2, g2, rfl, rfl⟩
    have e1 : atsOf (pre ++ [(k, x)]) = atsOf pre ++ [.int .i64 k] := by unfold atsOf; rw [List.flatMap_append]; rfl
    have e2 : insOf (pre ++ [(k, x)]) = insOf pre ++ cells9 x := by unfold insOf; rw [List.flatMap_append]; simp
    have e3 : (pre ++ [(k, x)]).length = pre.length + 1 := by simp
    rcases y1 with _ | ⟨p1, q1, s1⟩
    · have := g1.1; omega
    rcases y2 with _ | ⟨p2, q2, s2⟩
    · have := g2.1; omega
    repeat (first | refine D.blkNormal ?_)
    refine D.next (some (p1, q1, s1), some (p2, q2, s2)) [4, 1, 7, 8, 9, 10, 2, 5, 11] ⟨by rw [e1, e3]; exact g1, by rw [e2, e3]; exact g2⟩ (by decide) ?_
    rw [e3]; rfl
  · rintro Db xs ⟨ya, yx⟩ rfl ⟨hG1, hG2⟩
    simp only at hG1 hG2
    show D _ _ _ _ ((Db, .deferred (some [])) :: (eMI vx va r4 r3 r2 bt code (rows (bytesOf code) 0).length (ya, yx) ++ [(bs, ob [.string code] 9)]))
    generalize (rows (bytesOf code) 0).length = n at *
    simp only [List.cons_append]
    repeat' (first | refine C.make ((Db, .deferred (some [])) :: (vx, ob [osV n yx] 38) :: (va, ob [osV n ya] 51) :: (bt, ob [.string code] 9) :: (osC 3 ya [] ++ osC 25 yx [] ++ [(bs, ob [.string code] 9)])) (by kernel_rfl) (h := ?_) | refine C.seq ?_ | refine D.blkNormal ?_ | refine D.seqR (h := ?_))
    iterate 2 ((refine QP.quiet (v := ?_) (by exact rfl) (by exact rfl) (fun w4 g4 => ?_) ?_; rotate_left); repeat (first | refine L.nil ?_ | refine L.load1 1 (c := ?_) | refine L.load1 2 (c := ?_) | exact D.endsQ | exact D.endsQ))
    refine QP.mk0 [(r2, ob [.slice none 0 0] 51)] (fun F B => F = [] ∧ B = [(r2, ob [osV n ya] 51)]) (h := fun w4 g4 => ?_) (k := ?_)
    · refine L.storeV 0 (hc := osV_cells _ _) (ho := osV_one _ _) (hl := rfl) (hM := rfl) (c := ?_)
      refine L.nil ?_
      exact D.endsP0 [] [(r2, ob [osV n ya] 51)] (hM := rfl) (hF := fun _ _ h => by cases h) (hR := ⟨rfl, rfl⟩)
    refine QP.mk0 [(r3, ob [.slice none 0 0] 38)] (fun F B => F = [] ∧ B = [(r3, ob [osV n yx] 38)]) (h := fun w4 g4 => ?_) (k := ?_)
    · refine L.storeV 0 (hc := osV_cells _ _) (ho := osV_one _ _) (hl := rfl) (hM := rfl) (c := ?_)
      refine L.nil ?_
      exact D.endsP0 [] [(r3, ob [osV n yx] 38)] (hM := rfl) (hF := fun _ _ h => by cases h) (hR := ⟨rfl, rfl⟩)
    refine QP.mk0 [(r4, ob [.bool false] 4)] (fun F B => F = [] ∧ B = [(r4, ob [.bool true] 4)]) (h := fun w4 g4 => ?_) (k := ?_)
    · simp only [List.cons_append, List.nil_append]
      repeat (first | refine L.nil ?_ | refine L.storeV 0 (c := ?_))
      exact D.endsP0 [] [(r4, ob [.bool true] 4)] (hM := rfl) (hF := fun _ _ h => by cases h) (hR := ⟨rfl, rfl⟩)
    refine QP.fin3 [none, none, some [], some [], some []] 2 3 4 (nds := [[], [], [], [], []]) (hM := by exact perm_six _ _ _ _ _ _ _) (k := ?_)
    rintro F1 B1 F2 B2 F3 B3 ⟨rfl, rfl⟩ ⟨rfl, rfl⟩ ⟨rfl, rfl⟩
    repeat (first | refine D.seq ?_ | refine C.ret ?_)
    rcases ya with _ | ⟨p1, q1, s1⟩ <;> rcases yx with _ | ⟨p2, q2, s2⟩
    · refine D.retM (vs := [osV n none, osV n none, .bool true]) [Db] [3] (by exact rfl) (by decide) (by exact rfl) (RV.cell1 0 rfl rfl rfl rfl (RV.cell1 1 rfl rfl rfl rfl (RV.cell1 2 rfl rfl rfl rfl RV.nil))) (fun w' hw => Post.mk (is := []) hw (by decide) rfl ⟨(none, none), hG1, hG2, rfl, rfl⟩)
    · refine D.retM (vs := [osV n none, osV n (some (p2, q2, s2)), .bool true]) [Db] [3] (by exact rfl) (by decide) (by exact rfl) (RV.cell1 0 rfl rfl rfl rfl (RV.cell1 1 rfl rfl rfl rfl (RV.cell1 2 rfl rfl rfl rfl RV.nil))) (fun w' hw => Post.mk (is := [6]) hw (by decide) rfl ⟨(none, some (p2, q2, s2)), hG1, hG2, rfl, rfl⟩)
    · refine D.retM (vs := [osV n (some (p1, q1, s1)), osV n none, .bool true]) [Db] [3] (by exact rfl) (by decide) (by exact rfl) (RV.cell1 0 rfl rfl rfl rfl (RV.cell1 1 rfl rfl rfl rfl (RV.cell1 2 rfl rfl rfl rfl RV.nil))) (fun w' hw => Post.mk (is := [6]) hw (by decide) rfl ⟨(some (p1, q1, s1), none), hG1, hG2, rfl, rfl⟩)
    · refine D.retM (vs := [osV n (some (p1, q1, s1)), osV n (some (p2, q2, s2)), .bool true]) [Db] [3] (by exact rfl) (by decide) (by exact rfl) (RV.cell1 0 rfl rfl rfl rfl (RV.cell1 1 rfl rfl rfl rfl (RV.cell1 2 rfl rfl rfl rfl RV.nil))) (fun w' hw => Post.mk (is := [6, 7]) hw (by decide) rfl ⟨(some (p1, q1, s1), some (p2, q2, s2)), hG1, hG2, rfl, rfl⟩)
  · rintro Db c pre y _ h; exact h.elim
end Go.Proofs.Ytakmpnmmcjnecaa
