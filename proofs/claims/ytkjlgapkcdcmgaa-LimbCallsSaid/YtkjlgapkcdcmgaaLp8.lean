/- LimbCalls: the walk. -/
import Derived.Test.YtkjlgapkcdcmgaaLp7
import Derived.Test.YtkjlgapkcdcmgaaLk38
import Derived.Test.YtkjlgapkcdcmgaaSepF
import Derived.Test.YtkjlgapkcdcmgaaFin
set_option linter.unusedVariables false
set_option linter.unusedSimpArgs false
namespace Go.Proofs.Ytkjlgapkcdcmgaa
open Go Go.RowKit SL
attribute [local irreducible] SL.L SL.C SL.D SL.N SL.H SL.QL SL.QW SL.QP SL.QF

/-- .. of a program that may not be. -/
theorem ends12N_S (regs : Int) (vb vo : Value) (bs : List Bf) (os : List Lop) (he : (checkM regs bs os).2 ≠ 0) : Ctr Try.prog 47 [progV regs vb vo] []
    (fun w => Rd w [] vb bs.length (bs.flatMap encB) ∧ Rd w [] vo os.length (os.flatMap encO)) (fun v B => v = shut [nilV] ∧ B = []) := by
  refine Ctr.enter Try.func47 Try.ntmps47 rfl rfl (fun w hr => ?_)
  have c1 : cm .neq (checkM regs bs os).2 0 = true := cm_ne he
  unfold progV
  repeat' (first | refine C.seq ?_ | refine C.region ?_ | refine L.nil ?_ | refine D.seq ?_ | refine L.assign (k := ?_) | refine L.loadA 0 (c := ?_) | refine L.box (c := fun _ => ?_))
  rename_i pb
  refine L.callP [] (rcheck_S regs vb vo bs os) (hpre := fun w hw => ⟨hr.1.at hw, hr.2.at hw⟩) (k := ?_)
  rintro v B ⟨rfl, rfl⟩
  rw [hdrop_nil]
  unfold shut
  rw [List.nil_append]
  repeat' (first | refine C.seq ?_ | refine C.region ?_ | refine L.nil ?_ | refine D.seq ?_ | refine L.move (k := ?_) | refine L.assign (k := ?_) | refine L.cm (c := ?_) | refine L.extract (c := ?_) | refine C.yes (h1 := ?_) | refine C.ret ?_ | refine D.thenRet ?_)
  (refine D.ret (vs := [_]) (RV.tmp rfl RV.nil) ?_; intro w' hw; exact Post.mk (is := []) hw List.nodup_nil rfl ⟨rfl, rfl⟩)
theorem ends12R_S (regs : Int) (vb vo : Value) (bs : List Bf) (os : List Lop) : Ctr Try.prog 47 [progV regs vb vo] []
    (fun w => Rd w [] vb bs.length (bs.flatMap encB) ∧ Rd w [] vo os.length (os.flatMap encO)) (endsR regs bs os) := by
  by_cases he : (checkM regs bs os).2 ≠ 0
  · have : endsR regs bs os = (fun v B => v = shut [nilV] ∧ B = []) := by funext v B; unfold endsR; rw [if_pos he]; rfl
    rw [this]; exact ends12N_S regs vb vo bs os he
  · have : endsR regs bs os = (fun v B => ∃ eb, v = shut [.slice (some ⟨eb, 0, none⟩) os.length os.length] ∧ B = [(eb, ob ((eRun os os.length).map int) 3)]) := by funext v B; unfold endsR; rw [if_neg he]
    rw [this]; exact ends12_S regs vb vo bs os (by omega) (stk_all (regs := regs) (bs := bs) (by omega))
/-- What keysmithref12.Run answers, told of the same. -/
theorem run12_read {regs : Int} {bs : List Bf} {os : List Lop} {rs : Rws} {u : Value} {B : Hp} (hu : run12R regs bs os rs u B) :
    ∃ (yv mv : Value) (ry : Rws), u = shut [yv, mv, .int .i64 (outR regs bs os rs).1] ∧ ry.map (·.2) = (outR regs bs os rs).2.1 ∧
      ∀ (w0 w : World) (A : List Nat) (M : Hp), At w0 A M w → (∀ b ∈ B, b ∈ M) → RdR w [] yv ry ∧ Rd w [] mv (outR regs bs os rs).2.2.length ((outR regs bs os rs).2.2.flatMap encE) := by
  have nl : ∀ w : World, RdR w [] nilV [] ∧ Rd w [] nilV ([] : List Ev).length (([] : List Ev).flatMap encE) := fun w => ⟨⟨⟨SlV.nil, fun h => absurd h (by simp)⟩, fun r hr => (by cases hr)⟩, ⟨SlV.nil, fun h => absurd h (by simp)⟩⟩
  unfold run12R at hu
  split at hu
  · rename_i h1
    obtain ⟨rfl, rfl⟩ := hu
    unfold outR
    rw [if_pos h1]
    exact ⟨nilV, nilV, [], rfl, rfl, fun w0 w A M _ _ => nl w⟩
  · rename_i h1
    split at hu
    · rename_i h2
      obtain ⟨rfl, rfl⟩ := hu
      unfold outR
      rw [if_neg h1, if_pos h2]
      exact ⟨nilV, nilV, [], rfl, rfl, fun w0 w A M _ _ => nl w⟩
    · rename_i h2
      split at hu
      · rename_i h3
        obtain ⟨rfl, rfl⟩ := hu
        unfold outR
        rw [if_neg h1, if_neg h2, if_pos h3]
        exact ⟨nilV, nilV, [], rfl, rfl, fun w0 w A M _ _ => nl w⟩
      · rename_i h3
        obtain ⟨n, x, h, hgo, g, hd⟩ := hu
        have he : (checkM regs bs os).2 = 0 := by omega
        obtain ⟨hp, hpS⟩ := tree_of he
        obtain ⟨k1, k2, k3⟩ := runs_agree he hp hpS hgo
        rw [out_run he (by omega) (by simpa using h3), ← k1, ← k2, ← k3]
        rcases hd with ⟨ok, rfl, rfl⟩ | ⟨ok, rfl, rfl⟩
        · rw [if_pos ok]
          refine ⟨_, _, rwsOf x.1.bufs h.ys, rfl, rwsOf_snd g.b.1, fun w0 w A M hw hB => ⟨?_, ?_⟩⟩
          · exact own_rdR g.b rfl g.y hw (fun x hx => hB _ (by simp [hx])) (fun x hx => hB _ (by simp [hx]))
          · exact g.l.rdm (T := 55) hw (fun x hx => hB _ (by simp [hx]))
        · rw [if_neg (by rw [ok]; decide)]
          exact ⟨_, _, [], rfl, rfl, fun w0 w A M hw hB => ⟨(nl w).1, g.l.rdm (T := 55) hw (fun x hx => hB _ hx)⟩⟩
set_option maxRecDepth 100000 in
set_option maxHeartbeats 16000000 in
theorem callsLaw_S (regs qregs : Int) (vb vo ub uo v : Value) (bs cs : List Bf) (os ps : List Lop) (rs : Rws) (hbl : bs.length ≤ maxLen) (hol : os.length ≤ maxLen) (hcl : cs.length ≤ maxLen) (hpl : ps.length ≤ maxLen) (hrl : rs.length ≤ maxLen) (hI : ∀ o ∈ os, W64 o.imm) (hrs : ∀ r ∈ rs, RngR r.2) :
    Ctr Try.prog 12 [progV regs vb vo, progV qregs ub uo, v] [] (fun w => (Rd w [] vb bs.length (bs.flatMap encB) ∧ Rd w [] vo os.length (os.flatMap encO)) ∧ (Rd w [] ub cs.length (cs.flatMap encB) ∧ Rd w [] uo ps.length (ps.flatMap encO)) ∧ RdR w [] v rs) (is (.bool true) []) := by
  refine Ctr.enter Try.func12 Try.ntmps12 rfl rfl (fun w hr => ?_)
  have s2 := hr.1.2.1
  have s4 := hr.2.1.2.1
  have kL := light_S regs vb vo bs os.length 60 s2 hbl hol
  have kM := light_S qregs ub uo cs ps.length 60 s4 hcl hpl
  have kR := lightRows_S v rs hrl
  have kS := lsteps_S regs vb vo bs os hbl
  have kT := steps12_S regs vb vo bs os
  obtain ⟨n, hn⟩ : ∃ n, stepsR regs bs os = n := ⟨_, rfl⟩
  rw [hn] at kS kT
  unfold progV
  cases hL : lightM regs bs os.length 60 with
  | false =>
    rw [hL] at kL
    repeat' (first | refine C.seq ?_ | refine C.region ?_ | refine L.nil ?_ | refine D.seq ?_ | refine L.move (k := ?_) | refine L.assign (k := ?_) | refine L.loadA 1 (c := ?_) | refine L.box (c := fun _ => ?_) | refine C.yes (h1 := ?_) | refine C.no (h1 := ?_) | refine L.pickT (k := ?_) | refine L.pass (k := ?_) | refine L.not (c := ?_) | refine C.ret ?_ | refine D.thenRet ?_ | refine C.skip ?_ | refine L.callQ (lives12_S) (k := ?_) | refine L.callQ kL (hpre := fun w hw => hr.1.1.at hw) (k := ?_))
    (refine D.ret (vs := [_]) (RV.tmp rfl RV.nil) ?_; intro w' hw; exact Post.mk (is := []) hw List.nodup_nil rfl ⟨rfl, rfl⟩)
  | true =>
  rw [hL] at kL
  cases hM : lightM qregs cs ps.length 60 with
  | false =>
    rw [hM] at kM
    repeat' (first | refine C.seq ?_ | refine C.region ?_ | refine L.nil ?_ | refine D.seq ?_ | refine L.move (k := ?_) | refine L.assign (k := ?_) | refine L.loadA 0 (c := ?_) | refine L.loadA 1 (c := ?_) | refine L.box (c := fun _ => ?_) | refine C.yes (h1 := ?_) | refine C.no (h1 := ?_) | refine L.pickT (k := ?_) | refine L.pickF (k := ?_) | refine L.want (k := ?_) | refine L.pass (k := ?_) | refine L.not (c := ?_) | refine C.ret ?_ | refine D.thenRet ?_ | refine C.skip ?_ | refine L.callQ (lives12_S) (k := ?_) | refine L.callQ kL (hpre := fun w hw => hr.1.1.at hw) (k := ?_) | refine L.callQ kM (hpre := fun w hw => hr.2.1.1.at hw) (k := ?_))
    (refine D.ret (vs := [_]) (RV.tmp rfl RV.nil) ?_; intro w' hw; exact Post.mk (is := []) hw List.nodup_nil rfl ⟨rfl, rfl⟩)
  | true =>
  rw [hM] at kM
  cases hA : lightRowsM rs with
  | false =>
    rw [hA] at kR
    repeat' (first | refine C.seq ?_ | refine C.region ?_ | refine L.nil ?_ | refine D.seq ?_ | refine L.move (k := ?_) | refine L.assign (k := ?_) | refine L.loadA 0 (c := ?_) | refine L.loadA 1 (c := ?_) | refine L.box (c := fun _ => ?_) | refine C.yes (h1 := ?_) | refine C.no (h1 := ?_) | refine L.pickF (k := ?_) | refine L.want (k := ?_) | refine L.not (c := ?_) | refine C.ret ?_ | refine D.thenRet ?_ | refine C.skip ?_ | refine L.callQ (lives12_S) (k := ?_) | refine L.callQ kL (hpre := fun w hw => hr.1.1.at hw) (k := ?_) | refine L.callQ kM (hpre := fun w hw => hr.2.1.1.at hw) (k := ?_) | refine L.callQ kR (hpre := fun w hw => hr.2.2.at hw) (k := ?_))
    (refine D.ret (vs := [_]) (RV.tmp rfl RV.nil) ?_; intro w' hw; exact Post.mk (is := []) hw List.nodup_nil rfl ⟨rfl, rfl⟩)
  | true =>
  rw [hA] at kR
  obtain ⟨h40, h600⟩ := lightRows_ok hA
  obtain ⟨hl1, hl2, hl3, _⟩ := light_ok hL
  obtain ⟨hm1, hm2, hm3, _⟩ := light_ok hM
  repeat' (first | refine C.seq ?_ | refine C.region ?_ | refine L.nil ?_ | refine D.seq ?_ | refine L.move (k := ?_) | refine L.assign (k := ?_) | refine L.loadA 0 (c := ?_) | refine L.loadA 1 (c := ?_) | refine L.box (c := fun _ => ?_) | refine C.no (h1 := ?_) | refine L.pickF (k := ?_) | refine L.want (k := ?_) | refine L.not (c := ?_) | refine C.skip ?_ | refine L.callQ (lives12_S) (k := ?_) | refine L.callQ kL (hpre := fun w hw => hr.1.1.at hw) (k := ?_) | refine L.callQ kM (hpre := fun w hw => hr.2.1.1.at hw) (k := ?_) | refine L.callQ kR (hpre := fun w hw => hr.2.2.at hw) (k := ?_))
  rename_i p1 p2
  refine L.callP [] (check_S regs vb vo bs os hbl) (hpre := fun w hw => ⟨hr.1.1.at hw, hr.1.2.at hw⟩) (k := ?_)
  rintro u0 B0 ⟨rfl, rfl⟩
  rw [hdrop_nil]
  unfold shut
  rw [List.nil_append]
  obtain ⟨ca, hca⟩ : ∃ ca, checkM regs bs os = ca := ⟨_, rfl⟩
  rw [hca]
  repeat' (first | refine C.seq ?_ | refine C.region ?_ | refine L.nil ?_ | refine D.seq ?_ | refine L.move (k := ?_) | refine L.assign (k := ?_) | refine L.loadA 1 (c := ?_) | refine L.extract (c := ?_))
  refine L.callP [] (rcheck_S regs vb vo bs os) (hpre := fun w hw => ⟨hr.1.1.at hw, hr.1.2.at hw⟩) (k := ?_)
  rintro u0 B0 ⟨rfl, rfl⟩
  rw [hdrop_nil]
  unfold shut
  rw [List.nil_append, hca]
  repeat' (first | refine C.seq ?_ | refine C.region ?_ | refine L.nil ?_ | refine D.seq ?_ | refine L.move (k := ?_) | refine L.assign (k := ?_) | refine L.loadA 1 (c := ?_) | refine L.extract (c := ?_) | refine L.callQ kT (hpre := fun w hw => ⟨hr.1.1.at hw, hr.1.2.at hw⟩) (k := ?_))
  have e1 : cm .neq ca.1 ca.1 = false := cm_ne' rfl
  have e2 : cm .neq ca.2 ca.2 = false := cm_ne' rfl
  have e3 : cm .neq n n = false := cm_ne' rfl
  have kE := sameI_S
  obtain ⟨z, hz⟩ : ∃ z, decide (regs = qregs ∧ bs = cs ∧ os = ps) = z := ⟨_, rfl⟩
  have kA := lsame_S regs qregs vb vo ub uo bs cs os ps (by omega) (by omega)
  have kB := same12_S regs qregs vb vo ub uo bs cs os ps (by omega) (by omega)
  rw [hz] at kA kB
  have e4 : (z != z) = false := by simp
  refine C.fresh (by kernel_rfl) (h := ?_)
  (refine QF.val0 (v := ?_) (by exact rfl) (by exact rfl) (fun w1 g1 => ?_) ?_; rotate_left)
  · repeat (first | refine L.nil ?_ | refine L.move (k := ?_) | exact D.endsJ (hJ := fun w hw => ⟨rfl, hw⟩))
  (refine QF.val0 (v := ?_) (by exact rfl) (by exact rfl) (fun w1 g1 => ?_) ?_; rotate_left)
  · repeat (first | refine L.nil ?_ | refine L.move (k := ?_) | exact D.endsJ (hJ := fun w hw => ⟨rfl, hw⟩))
  (refine QF.val0 (v := ?_) (by exact rfl) (by exact rfl) (fun w1 g1 => ?_) ?_; rotate_left)
  · repeat (first | refine L.nil ?_ | refine L.cm (c := ?_) | exact D.endsJ (hJ := fun w hw => ⟨rfl, hw⟩))
  (refine QF.val0 (v := ?_) (by exact rfl) (by exact rfl) (fun w1 g1 => ?_) ?_; rotate_left)
  · repeat (first | refine L.nil ?_ | refine L.move (k := ?_) | exact D.endsJ (hJ := fun w hw => ⟨rfl, hw⟩))
  (refine QF.val0 (v := ?_) (by exact rfl) (by exact rfl) (fun w1 g1 => ?_) ?_; rotate_left)
  · repeat (first | refine L.nil ?_ | refine L.move (k := ?_) | refine L.want (k := ?_) | exact D.endsJ (hJ := fun w hw => ⟨rfl, hw⟩))
  (refine QF.val0 (v := ?_) (by exact rfl) (by exact rfl) (fun w1 g1 => ?_) ?_; rotate_left)
  · repeat (first | refine L.nil ?_ | refine L.move (k := ?_) | refine L.want (k := ?_) | exact D.endsJ (hJ := fun w hw => ⟨rfl, hw⟩))
  (refine QF.val0 (v := ?_) (by exact rfl) (by exact rfl) (fun w1 g1 => ?_) ?_; rotate_left)
  · repeat (first | refine L.nil ?_ | refine L.cm (c := ?_) | refine L.want (k := ?_) | exact D.endsJ (hJ := fun w hw => ⟨rfl, hw⟩))
  (refine QF.val0 (v := ?_) (by exact rfl) (by exact rfl) (fun w1 g1 => ?_) ?_; rotate_left)
  · repeat (first | refine L.nil ?_ | refine L.pickF (k := ?_) | exact D.endsJ (hJ := fun w hw => ⟨rfl, hw⟩))
  (refine QF.val0 (v := ?_) (by exact rfl) (by exact rfl) (fun w1 g1 => ?_) ?_; rotate_left)
  · repeat (first | refine L.nil ?_ | refine L.move (k := ?_) | exact D.endsJ (hJ := fun w hw => ⟨rfl, hw⟩))
  (refine QF.val0 (v := ?_) (by exact rfl) (by exact rfl) (fun w1 g1 => ?_) ?_; rotate_left)
  · repeat (first | refine L.nil ?_ | refine L.loadA 1 (c := ?_) | refine L.want (k := ?_) | exact D.endsJ (hJ := fun w hw => ⟨rfl, hw⟩))
  (refine QF.val0 (v := ?_) (by exact rfl) (by exact rfl) (fun w1 g1 => ?_) ?_; rotate_left)
  · repeat (first | refine L.nil ?_ | refine L.want (k := ?_) | exact D.endsJ (hJ := fun w hw => ⟨rfl, hw⟩) | refine L.callQ kS (hpre := fun w hw => ⟨(hr.1.1.base g1 _ (fun _ h => h)).at hw, (hr.1.2.base g1 _ (fun _ h => h)).at hw⟩) (k := ?_))
  (refine QF.val0 (v := ?_) (by exact rfl) (by exact rfl) (fun w1 g1 => ?_) ?_; rotate_left)
  · repeat (first | refine L.nil ?_ | refine L.move (k := ?_) | refine L.want (k := ?_) | exact D.endsJ (hJ := fun w hw => ⟨rfl, hw⟩))
  (refine QF.val0 (v := ?_) (by exact rfl) (by exact rfl) (fun w1 g1 => ?_) ?_; rotate_left)
  · repeat (first | refine L.nil ?_ | refine L.cm (c := ?_) | refine L.want (k := ?_) | exact D.endsJ (hJ := fun w hw => ⟨rfl, hw⟩))
  (refine QF.val0 (v := ?_) (by exact rfl) (by exact rfl) (fun w1 g1 => ?_) ?_; rotate_left)
  · repeat (first | refine L.nil ?_ | refine L.pickF (k := ?_) | exact D.endsJ (hJ := fun w hw => ⟨rfl, hw⟩))
  (refine QF.val0 (v := ?_) (by exact rfl) (by exact rfl) (fun w1 g1 => ?_) ?_; rotate_left)
  · repeat (first | refine L.nil ?_ | refine L.move (k := ?_) | exact D.endsJ (hJ := fun w hw => ⟨rfl, hw⟩))
  (refine QF.val0 (v := ?_) (by exact rfl) (by exact rfl) (fun w1 g1 => ?_) ?_; rotate_left)
  · repeat (first | refine L.nil ?_ | refine L.loadA 1 (c := ?_) | refine L.want (k := ?_) | exact D.endsJ (hJ := fun w hw => ⟨rfl, hw⟩))
  refine QF.mk0 (fun w u => Rd w (keys _) u (endsL regs bs os).length ((endsL regs bs os).map int)) (hR := fun w w' u hw hR => hR.base hw _ (fun _ h => h)) (h := fun w1 g1 => ?_) (k := ?_)
  · repeat (first | refine L.want (k := ?_))
    refine L.callP [] (lEnds_S regs vb vo bs os hbl) (hpre := fun w hw => ⟨(hr.1.1.base g1 _ (fun _ h => h)).at hw, (hr.1.2.base g1 _ (fun _ h => h)).at hw⟩) (k := ?_)
    intro v B hv
    rw [hdrop_nil]
    refine L.nil (D.endsJ (hJ := fun w hw => ?_))
    obtain ⟨ev, rfl, hrd⟩ := ends_read hv hw
    exact ⟨hrd, hw.rest⟩
  (refine QF.val0 (v := ?_) (by exact rfl) (by exact rfl) (fun w1 g1 => ?_) ?_; rotate_left)
  · repeat (first | refine L.nil ?_ | refine L.loadA 1 (c := ?_) | refine L.want (k := ?_) | exact D.endsJ (hJ := fun w hw => ⟨rfl, hw⟩))
  refine QF.mk0 (fun w u => Rd w (keys _) u (endsL regs bs os).length ((endsL regs bs os).map int)) (hR := fun w w' u hw hR => hR.base hw _ (fun _ h => h)) (h := fun w1 g1 => ?_) (k := ?_)
  · repeat (first | refine L.want (k := ?_))
    refine L.callP [] (ends12R_S regs vb vo bs os) (hpre := fun w hw => ⟨(hr.1.1.base g1 _ (fun _ h => h)).at hw, (hr.1.2.base g1 _ (fun _ h => h)).at hw⟩) (k := ?_)
    intro v B hv
    rw [hdrop_nil]
    refine L.nil (D.endsJ (hJ := fun w hw => ?_))
    obtain ⟨ev, rfl, hrd⟩ := ends_read hv hw
    exact ⟨hrd, hw.rest⟩
  (refine QF.val2 16 18 (v := ?_) (by exact rfl) (by exact rfl) (by exact rfl) (by exact rfl) (by exact rfl) (by exact rfl) (fun w1 u1 u2 g1 r1 r2 => ?_) ?_; rotate_left)
  · have kE := sameI_S u1 u2 (endsL regs bs os) (endsL regs bs os) (by have := endsL_len regs bs os; omega)
    rw [decide_eq_true rfl] at kE
    repeat (first | refine L.want (k := ?_))
    refine L.callQ kE (hpre := fun w hw => ⟨r1.at hw, r2.at hw⟩) (k := ?_)
    exact L.nil (D.endsJ (hJ := fun w hw => ⟨rfl, hw⟩))
  (refine QF.val0 (v := ?_) (by exact rfl) (by exact rfl) (fun w1 g1 => ?_) ?_; rotate_left)
  · repeat (first | refine L.nil ?_ | refine L.want (k := ?_) | refine L.not (c := ?_) | exact D.endsJ (hJ := fun w hw => ⟨rfl, hw⟩))
  (refine QF.val0 (v := ?_) (by exact rfl) (by exact rfl) (fun w1 g1 => ?_) ?_; rotate_left)
  · repeat (first | refine L.nil ?_ | refine L.pickF (k := ?_) | exact D.endsJ (hJ := fun w hw => ⟨rfl, hw⟩))
  (refine QF.val0 (v := ?_) (by exact rfl) (by exact rfl) (fun w1 g1 => ?_) ?_; rotate_left)
  · repeat (first | refine L.nil ?_ | refine L.move (k := ?_) | exact D.endsJ (hJ := fun w hw => ⟨rfl, hw⟩))
  (refine QF.val0 (v := ?_) (by exact rfl) (by exact rfl) (fun w1 g1 => ?_) ?_; rotate_left)
  · repeat (first | refine L.nil ?_ | refine L.loadA 1 (c := ?_) | refine L.want (k := ?_) | exact D.endsJ (hJ := fun w hw => ⟨rfl, hw⟩))
  (refine QF.val0 (v := ?_) (by exact rfl) (by exact rfl) (fun w1 g1 => ?_) ?_; rotate_left)
  · repeat (first | refine L.nil ?_ | refine L.loadA 0 (c := ?_) | refine L.want (k := ?_) | exact D.endsJ (hJ := fun w hw => ⟨rfl, hw⟩))
  (refine QF.val0 (v := ?_) (by exact rfl) (by exact rfl) (fun w1 g1 => ?_) ?_; rotate_left)
  · repeat (first | refine L.nil ?_ | refine L.want (k := ?_) | exact D.endsJ (hJ := fun w hw => ⟨rfl, hw⟩) | refine L.callQ kA (hpre := fun w hw => ⟨⟨(hr.1.1.base g1 _ (fun _ h => h)).at hw, (hr.1.2.base g1 _ (fun _ h => h)).at hw⟩, (hr.2.1.1.base g1 _ (fun _ h => h)).at hw, (hr.2.1.2.base g1 _ (fun _ h => h)).at hw⟩) (k := ?_))
  (refine QF.val0 (v := ?_) (by exact rfl) (by exact rfl) (fun w1 g1 => ?_) ?_; rotate_left)
  · repeat (first | refine L.nil ?_ | refine L.loadA 1 (c := ?_) | refine L.want (k := ?_) | exact D.endsJ (hJ := fun w hw => ⟨rfl, hw⟩))
  (refine QF.val0 (v := ?_) (by exact rfl) (by exact rfl) (fun w1 g1 => ?_) ?_; rotate_left)
  · repeat (first | refine L.nil ?_ | refine L.loadA 0 (c := ?_) | refine L.want (k := ?_) | exact D.endsJ (hJ := fun w hw => ⟨rfl, hw⟩))
  (refine QF.val0 (v := ?_) (by exact rfl) (by exact rfl) (fun w1 g1 => ?_) ?_; rotate_left)
  · repeat (first | refine L.nil ?_ | refine L.want (k := ?_) | exact D.endsJ (hJ := fun w hw => ⟨rfl, hw⟩) | refine L.callQ kB (hpre := fun w hw => ⟨⟨(hr.1.1.base g1 _ (fun _ h => h)).at hw, (hr.1.2.base g1 _ (fun _ h => h)).at hw⟩, (hr.2.1.1.base g1 _ (fun _ h => h)).at hw, (hr.2.1.2.base g1 _ (fun _ h => h)).at hw⟩) (k := ?_))
  (refine QF.val0 (v := ?_) (by exact rfl) (by exact rfl) (fun w1 g1 => ?_) ?_; rotate_left)
  · repeat (first | refine L.nil ?_ | refine L.want (k := ?_) | refine L.neB (c := ?_) | exact D.endsJ (hJ := fun w hw => ⟨rfl, hw⟩))
  (refine QF.val0 (v := ?_) (by exact rfl) (by exact rfl) (fun w1 g1 => ?_) ?_; rotate_left)
  · repeat (first | refine L.nil ?_ | refine L.pickF (k := ?_) | exact D.endsJ (hJ := fun w hw => ⟨rfl, hw⟩))
  (refine QF.val0 (v := ?_) (by exact rfl) (by exact rfl) (fun w1 g1 => ?_) ?_; rotate_left)
  · repeat (first | refine L.nil ?_ | refine L.move (k := ?_) | exact D.endsJ (hJ := fun w hw => ⟨rfl, hw⟩))
  (refine QF.val0 (v := ?_) (by exact rfl) (by exact rfl) (fun w1 g1 => ?_) ?_; rotate_left)
  · repeat (first | refine L.nil ?_ | refine L.loadA 1 (c := ?_) | refine L.want (k := ?_) | exact D.endsJ (hJ := fun w hw => ⟨rfl, hw⟩))
  refine QF.mk0 (fun w u => ∃ xb xo, u = progV regs xb xo ∧ Rd w (keys _) xb bs.length (bs.flatMap encB) ∧ Rd w (keys _) xo os.length (os.flatMap encO)) (hR := fun w w' u hw ⟨xb, xo, h1, h2, h3⟩ => ⟨xb, xo, h1, h2.base hw _ (fun _ h => h), h3.base hw _ (fun _ h => h)⟩) (h := fun w1 g1 => ?_) (k := ?_)
  · repeat (first | refine L.want (k := ?_))
    refine L.callP [] (lcopy_S regs vb vo bs.length os.length (bs.flatMap encB) (os.flatMap encO) (flat_len encB_len bs) (flat_len encO_len os) (ones_flat ones_B bs) (ones_flat ones_O os) (by omega) (by omega) hr.1.1.1 s2) (hpre := fun w hw => ⟨(hr.1.1.base g1 _ (fun _ h => h)).at hw, (hr.1.2.base g1 _ (fun _ h => h)).at hw⟩) (k := ?_)
    rintro v B ⟨y1, y2, g2, g3, rfl, rfl⟩
    rw [hdrop_nil]
    refine L.nil (D.endsJ (hJ := fun w hw => ?_))
    refine ⟨⟨_, _, rfl, g2.rdk (T := 33) hw (fun x hx => ?_) (fun x hx => hw.notin ?_), g3.rdk (T := 39) hw (fun x hx => ?_) (fun x hx => hw.notin ?_)⟩, hw.rest⟩
    all_goals (rw [osC_app 33 y1 (osC 39 y2 [])]; simp [hx])
  (refine QF.val0 (v := ?_) (by exact rfl) (by exact rfl) (fun w1 g1 => ?_) ?_; rotate_left)
  · repeat (first | refine L.nil ?_ | refine L.loadA 1 (c := ?_) | refine L.want (k := ?_) | exact D.endsJ (hJ := fun w hw => ⟨rfl, hw⟩))
  (refine QF.val1 33 (v := ?_) (by exact rfl) (by exact rfl) (by exact rfl) (by exact rfl) (fun w1 u1 g1 r1 => ?_) ?_; rotate_left)
  · obtain ⟨xb, xo, rfl, r2, r3⟩ := r1
    have kC := same12_S regs regs xb xo vb vo bs bs os os (by omega) (by omega)
    rw [decide_eq_true ⟨rfl, rfl, rfl⟩] at kC
    repeat (first | refine L.want (k := ?_))
    refine L.callQ kC (hpre := fun w hw => ⟨⟨r2.at hw, r3.at hw⟩, (hr.1.1.base g1 _ (fun _ h => h)).at hw, (hr.1.2.base g1 _ (fun _ h => h)).at hw⟩) (k := ?_)
    exact L.nil (D.endsJ (hJ := fun w hw => ⟨rfl, hw⟩))
  (refine QF.val0 (v := ?_) (by exact rfl) (by exact rfl) (fun w1 g1 => ?_) ?_; rotate_left)
  · repeat (first | refine L.nil ?_ | refine L.want (k := ?_) | refine L.not (c := ?_) | exact D.endsJ (hJ := fun w hw => ⟨rfl, hw⟩))
  (refine QF.val0 (v := ?_) (by exact rfl) (by exact rfl) (fun w1 g1 => ?_) ?_; rotate_left)
  · repeat (first | refine L.nil ?_ | refine L.pickF (k := ?_) | exact D.endsJ (hJ := fun w hw => ⟨rfl, hw⟩))
  refine QF.fin0 [(false, []), (false, []), (false, []), (false, []), (false, []), (false, []), (false, []), (false, []), (false, []), (false, []), (false, []), (false, []), (false, []), (false, []), (false, []), (false, []), (true, []), (false, []), (true, []), (false, [16, 18]), (false, []), (false, []), (false, []), (false, []), (false, []), (false, []), (false, []), (false, []), (false, []), (false, []), (false, []), (false, []), (false, []), (true, []), (false, []), (false, [33]), (false, []), (false, [])] (k := fun w1 h1 => ?_)
  have q1 := hr.1.1.base h1 _ (fun _ h => h)
  have q2 := hr.1.2.base h1 _ (fun _ h => h)
  have qv := hr.2.2.base h1 _ (fun _ h => h)
  by_cases hb1 : 5000 < n ∧ n ≤ 16777216
  · have c1 : cm .gtr n 5000 = true := cm_gt hb1.1
    have c2 : cm .leq n 16777216 = true := cm_le hb1.2
    repeat' (first | refine C.seq ?_ | refine C.region ?_ | refine L.nil ?_ | refine D.seq ?_ | refine L.move (k := ?_) | refine L.assign (k := ?_) | refine L.cm (c := ?_) | refine C.yes (h1 := ?_) | refine C.no (h1 := ?_) | refine L.pickT (k := ?_) | refine L.want (k := ?_) | refine C.ret ?_ | refine D.thenRet ?_ | refine C.skip ?_ | refine D.seqR (h := ?_))
    (refine D.ret (vs := [_]) (RV.tmp rfl RV.nil) ?_; intro w' hw; exact Post.mkD 2 (h1.onto hw) rfl ⟨rfl, rfl⟩)
  have kOwn := ownProg_S regs vb vo bs.length os.length (bs.flatMap encB) (os.flatMap encO) (flat_len encB_len bs) (flat_len encO_len os) (ones_flat ones_B bs) (ones_flat ones_O os) (by omega) (by omega) q1.1 q2.1
  have hgo : (cm .gtr n 5000 && cm .leq n 16777216) = false := by
    cases h1 : cm .gtr n 5000 with
    | false => rfl
    | true =>
      have h2 : 5000 < n := by simpa [cm] using h1
      rw [cm_le' (by omega)]; rfl
  repeat' (first | refine C.seq ?_ | refine C.region ?_ | refine L.nil ?_ | refine D.seq ?_ | refine L.move (k := ?_) | refine L.cm (c := ?_) | refine C.no (h1 := ?_) | refine L.pickT (k := ?_) | refine L.pickF (k := ?_) | refine L.want (k := ?_) | refine L.pass (k := ?_) | refine C.skip ?_ | refine D.seqR (h := ?_) | exact D.endsG | (refine L.andB 2 (b2 := ?_) (h1 := fun hb => ?_) (h2 := fun hb => ?_) (k := ?_); rotate_left))
  refine C.eqv (i := 88) (v' := .bool false) rfl (congrArg Value.bool hgo) ?_
  repeat' (first | refine C.seq ?_ | refine C.region ?_ | refine D.seq ?_ | refine L.loadA 1 (c := ?_) | refine C.no (h1 := ?_) | refine C.skip ?_)
  refine L.callP [] kOwn (hpre := fun w hw => ⟨q1.at hw, q2.at hw⟩) (k := ?_)
  rintro u B ⟨yb, yo, gb0, go0, rfl, rfl⟩
  rw [hdrop_nil]
  unfold shut
  repeat' (first | refine L.move (k := ?_))
  refine L.callP [] (ownRows_S v rs (by omega) (fun r hr => by have := h600 r hr; omega)) (hpre := fun w hw => qv.at hw) (k := ?_)
  rintro u B ⟨y, ys, gr0, gy0, rfl, rfl⟩
  rw [hdrop_nil]
  unfold shut
  refine L.base _ (M' := []) (List.append_nil _).symm (fun w2 h2 => ?_)
  have tb := gb0.rdm (T := 33) h2 (fun x hx => by rw [osC_app 33 yb (osC 39 yo [])]; simp [hx])
  have to := go0.rdm (T := 39) h2 (fun x hx => by rw [osC_app 33 yb (osC 39 yo [])]; simp [hx])
  have tr := own_rdR gr0 (by simp) gy0 h2 (fun x hx => by simp [hx]) (fun x hx => by simp [hx])
  have hrt : (rwsOf (rs.map (·.2)) ys).map (·.2) = rs.map (·.2) := rwsOf_snd (by have := gr0.1; simpa using this)
  obtain ⟨rt, hrt0⟩ : ∃ rt, rwsOf (rs.map (·.2)) ys = rt := ⟨_, rfl⟩
  rw [hrt0] at tr hrt
  have op1 := Old.own (h2.holds (p1, ob [.int .i64 regs, vb, vo] 25) (by simp)) (A := []) (by simp) _ List.take_length
  have q12 := q1.at h2
  have q22 := q2.at h2
  have qv2 := qv.at h2
  have h12 := At.back (B := []) h1 h2
  repeat' (first | fail)
  refine L.callP [] (lrun_S regs (osV bs.length yb) (osV os.length yo) (osV rs.length y) bs os rt hbl hI (fun r hr => by
    have : r.2 ∈ rt.map (·.2) := List.mem_map.2 ⟨r, hr, rfl⟩
    rw [hrt] at this
    obtain ⟨q, hq, e⟩ := List.mem_map.1 this
    rw [← e]; exact hrs q hq)) (hpre := fun w hw => ⟨⟨tb.at hw, to.at hw⟩, tr.at hw⟩) (k := ?_)
  intro u1 B1 hu1
  rw [hdrop_nil]
  obtain ⟨xv, lv, rx, rfl, hmx, hgx, hrx⟩ := run_read hu1
  unfold shut
  refine L.base _ (M' := []) (List.append_nil _).symm (fun w3 h3 => ?_)
  obtain ⟨rX, rL⟩ := hrx _ _ _ _ h3 (fun b hb => by simp [hb])
  rw [outR_snd hrt] at hmx rL ⊢
  have op3 := op1.at h3
  have q13 := q12.at h3
  have q23 := q22.at h3
  have qv3 := qv2.at h3
  have h13 := At.back (at_nilr h12) h3
  obtain ⟨sx, so1⟩ := out_small (regs := regs) (bs := bs) (os := os) (rs := rs)
  have hx6 : (outR regs bs os rs).2.2.length ≤ 1000000 := by
    by_cases he : (checkM regs bs os).2 ≠ 0
    · unfold outR; rw [if_pos he]; simp
    · by_cases h6 : 16777216 < stepsM os
      · unfold outR; rw [if_neg he, if_pos h6]; simp
      · have h7 := so1.1
        have h8 : stepsM os = n := by rw [← hn]; unfold stepsR; rw [if_pos (by omega)]
        rw [if_pos (by omega)] at h7
        omega
  repeat' (first | refine C.seq ?_ | refine C.region ?_ | refine L.nil ?_ | refine L.move (k := ?_) | refine L.assign (k := ?_) | refine L.extract (c := ?_) | refine D.seqR (h := ?_) | refine L.loadOA op3 (i := 0) (ho := rfl) (hi := Nat.le_refl 3) (hcs := rfl) (c := ?_))
  refine L.callP [] (run12_S regs vb vo v bs os rs) (hpre := fun w hw => ⟨⟨q13.at hw, q23.at hw⟩, qv3.at hw⟩) (k := ?_)
  intro u2 B2 hu2
  rw [hdrop_nil]
  obtain ⟨yv, mv, ry, rfl, hmy, hry⟩ := run12_read hu2
  unfold shut
  refine L.base _ (M' := []) (List.append_nil _).symm (fun w4 h4 => ?_)
  obtain ⟨rY, rM⟩ := hry _ _ _ _ h4 (fun b hb => by simp [hb])
  have rX4 := rX.at h4
  have rL4 := rL.at h4
  have h14 := At.back (at_nilr h13) h4
  clear hrx hry hu1 hu2
  obtain ⟨X1, hX1⟩ : ∃ x, outR regs bs os rs = x := ⟨_, rfl⟩
  rw [hX1] at hmx hmy rL4 rM sx so1 hx6 ⊢
  have hxl : rx.length ≤ 32 := by have := congrArg List.length hmx; rw [List.length_map] at this; omega
  have kR2 := rowsEq_S xv yv rx ry (by omega) (fun r hr => by
    have : r.2 ∈ rx.map (·.2) := List.mem_map.2 ⟨r, hr, rfl⟩
    rw [hmx] at this
    have := so1.2.2 _ this
    omega)
  rw [decide_eq_true (show rx.map (·.2) = ry.map (·.2) by rw [hmx, hmy])] at kR2
  have kE2 := sameE_S lv mv X1.2.2 X1.2.2 hx6
  rw [decide_eq_true rfl] at kE2
  have c8 : cm .eql X1.1 X1.1 = true := cm_yes rfl
  repeat' (first | refine C.seq ?_ | refine C.region ?_ | refine L.nil ?_ | refine D.seq ?_ | refine L.move (k := ?_) | refine L.assign (k := ?_) | refine L.cm (c := ?_) | refine L.extract (c := ?_) | refine L.pickT (k := ?_) | refine L.want (k := ?_) | refine C.ret ?_ | refine D.seqR (h := ?_) | refine L.callQ kR2 (hpre := fun w1 hw => ⟨rX4.at hw, rY.at hw⟩) (k := ?_) | refine L.callQ kE2 (hpre := fun w1 hw => ⟨rL4.at hw, rM.at hw⟩) (k := ?_))
  (refine D.ret (vs := [_]) (RV.tmp rfl RV.nil) ?_; intro w' hw; exact Post.mkD 0 (At.back (at_nilr h14) hw) rfl ⟨rfl, rfl⟩)
theorem calls_walk (v : Value) (regs : Int) (vb vo : Value) (bs : List Bf) (os : List Lop) (v2 : Value) (qregs : Int) (ub uo : Value) (cs : List Bf) (ps : List Lop) (u : Value) (rs : Rws) (w : World) (hp : Prog w v regs vb vo bs os) (hp2 : Prog w v2 qregs ub uo cs ps) (hq : RowsA w u rs) :
    Calls Try.prog 12 #[v, v2, u] w fun e w' => e = .returned (.bool true) ∧ Below w.heap.size w w' := by
  obtain ⟨rfl, _, _, ook, hbl, hol, rb, ro⟩ := hp
  obtain ⟨rfl, _, _, _, hcl, hpl, rc, rp⟩ := hp2
  exact (callsLaw_S regs qregs vb vo ub uo u bs cs os ps rs hbl hol hcl hpl hq.len (fun o ho => (ook o ho).imm.w) (fun r hr x hx => ((hq.ok r hr).1 x hx).w)).true w ⟨⟨rb, ro⟩, ⟨rc, rp⟩, hq.rd⟩
end Go.Proofs.Ytkjlgapkcdcmgaa
