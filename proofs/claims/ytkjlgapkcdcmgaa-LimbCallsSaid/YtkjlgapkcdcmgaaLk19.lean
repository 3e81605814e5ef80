/- keysmithlaw13: op, example, lives. -/
import Derived.Test.YtkjlgapkcdcmgaaLk18
set_option linter.unusedVariables false
set_option linter.unusedSimpArgs false
namespace Go.Proofs.Ytkjlgapkcdcmgaa
open Go Go.RowKit SL
attribute [local irreducible] SL.L SL.C SL.D SL.N SL.H SL.QL SL.QW SL.QP

theorem op13_S (k d a b buf imm : Int) : Ctr Try.prog 20 [.int .i64 k, .int .i64 d, .int .i64 a, .int .i64 b, .int .i64 buf, .int .u64 imm] [] tt (is (aggO ⟨k, d, -1, a, b, -1, buf, imm⟩) []) := by
  refine Ctr.enter Try.func20 Try.ntmps20 rfl rfl (fun w _ => ?_)
  repeat' (first | refine C.seq ?_ | refine C.region ?_ | refine L.nil ?_ | refine D.seq ?_ | refine L.move (k := ?_) | refine L.storeV 0 (c := ?_) | refine L.build (c := ?_) | refine L.alloc (c := fun _ => ?_) | refine C.ret ?_)
  refine D.ret (vs := [_]) (RV.cellA 0 rfl rfl rfl rfl rfl RV.nil) ?_
  intro w' hw
  exact Post.mk (is := []) hw List.nodup_nil rfl ⟨rfl, rfl⟩
def exB : List Bf := [⟨2, 1, true⟩, ⟨2, 2, false⟩]
def exO : List Lop := [⟨14, 0, -1, -1, -1, -1, 0, 0⟩, ⟨14, 1, -1, 0, -1, -1, 0, 0⟩]
set_option maxHeartbeats 2000000 in
theorem example13_S : Ctr Try.prog 30 [] [] tt (fun v B => ∃ b1 b2, v = progV 3 (.slice (some ⟨b1, 0, none⟩) 2 2) (.slice (some ⟨b2, 0, none⟩) 2 2) ∧ B = [(b2, ob (exO.flatMap encO) 39), (b1, ob (exB.flatMap encB) 33)]) := by
  refine Ctr.enter Try.func30 Try.ntmps30 rfl rfl (fun w _ => ?_)
  have h1 := op13_S 14 0 (-1) (-1) 0 0
  have h2 := op13_S 14 1 0 (-1) 0 0
  unfold aggO at h1 h2
  repeat' (first | refine C.seq ?_ | refine C.region ?_ | refine L.nil ?_ | refine D.seq ?_ | refine L.storeV 2 (c := ?_) | refine L.build (c := ?_) | refine L.alloc (c := fun _ => ?_) | refine C.ret ?_ | refine L.buildS (c := fun _ => ?_) | refine L.callQ (h1) (k := ?_) | refine L.callQ (h2) (k := ?_))
  --@
  refine D.ret (vs := [_]) (RV.cellA 2 rfl rfl rfl rfl rfl RV.nil) ?_
  intro w' hw
  exact Post.mk (is := [0, 1]) hw (by decide) rfl ⟨_, _, rfl, rfl⟩
theorem ex_run {x : Int × Int} (h : CheckIs 3 exB exO x) : x = (1, 12) := by
  unfold CheckIs at h
  rw [if_pos (by decide +kernel)] at h
  obtain ⟨m, hl, _, hx⟩ := h
  have : m = itP exB exO 1 := least_eq hl (least_it 1 (by decide +kernel))
  subst this
  rw [hx]; decide +kernel
theorem lives13_S : Ctr Try.prog 13 [] [] tt (is (.bool true) []) := by
  refine Ctr.enter Try.func13 Try.ntmps13 rfl rfl (fun w _ => ?_)
  repeat' (first | refine C.seq ?_ | refine C.region ?_ | refine L.nil ?_ | refine D.seq ?_ | refine L.assign (k := ?_))
  refine L.callP [] example13_S (k := ?_)
  rintro v B ⟨b1, b2, rfl, rfl⟩
  rw [hdrop_nil]
  simp only [List.cons_append, List.nil_append]
  refine L.callP [] (scheck_S 3 (.slice (some ⟨b1, 0, none⟩) 2 2) (.slice (some ⟨b2, 0, none⟩) 2 2) exB exO (by unfold maxLen; decide)) (hpre := fun w hw => ⟨Rd.own (hw.holds _ mem1) (by simp) (Nat.le_refl _) 6 rfl, Rd.own (hw.holds _ mem0) (by simp) (Nat.le_refl _) 16 rfl⟩) (k := ?_)
  rintro v B ⟨x, hx, rfl, rfl⟩
  have hx := ex_run hx
  subst hx
  rw [hdrop_nil, List.nil_append]
  unfold shut
  repeat' (first | refine C.seq ?_ | refine C.region ?_ | refine L.nil ?_ | refine D.seq ?_ | refine L.move (k := ?_) | refine L.assign (k := ?_) | refine L.cm (c := ?_) | refine L.extract (c := ?_) | refine L.pickT (k := ?_) | refine L.want (k := ?_) | refine C.ret ?_ | refine D.seqR (h := ?_))
  refine D.ret (vs := [_]) (RV.tmp rfl RV.nil) ?_
  intro w' hw
  exact Post.mk (is := []) hw List.nodup_nil rfl ⟨rfl, rfl⟩
end Go.Proofs.Ytkjlgapkcdcmgaa
