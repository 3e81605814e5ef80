import Derived.Test.YtbcaelhchmoigaaLyE
import Derived.Test.YtbcaelhchmoigaaSepGZ
set_option linter.unusedVariables false
set_option linter.unusedSimpArgs false
namespace Go.Proofs.Ytbcaelhchmoigaa.Ly
open Go Go.RowKit Calm SL
attribute [local irreducible] SL.L SL.C SL.D SL.N SL.H SL.QL SL.QW SL.QP
theorem ones_vs (l : List Ln) : ones (l.flatMap Ln.vs) := by
  intro u hu
  obtain ⟨x, _, hx⟩ := List.mem_flatMap.1 hu
  simp only [Ln.vs, List.mem_cons, List.not_mem_nil, or_false] at hx
  rcases hx with rfl | rfl | rfl | rfl | rfl | rfl | rfl | rfl | rfl | rfl | rfl <;> rfl
def two : List Ln := [⟨1, ⟨0, 0, 0, 0, 0, 0, 0, 0, 0⟩, 0⟩, ⟨0, ⟨30, 0, 0, 0, 0, 0, 0, 0, 0⟩, 1⟩]
theorem two_bytes : lbytes two = (⟨#[233, 251, 255, 255, 255]⟩, 0) := by kernel_rfl
set_option maxRecDepth 100000 in
set_option maxHeartbeats 2000000 in
theorem lives_S : Ctr Try.prog 9 [] [] tt (is (.bool true) []) := by
  have hB := fun v => lbytes_S two (by decide) (by unfold two; intro x hx; simp only [List.mem_cons, List.not_mem_nil, or_false] at hx; rcases hx with rfl | rfl <;> exact ⟨by decide, by unfold Ins.ok; decide, by decide⟩) v
  rw [two_bytes] at hB
  refine Ctr.enter Try.func9 Try.ntmps9 rfl rfl (fun w _ => ?_)
  repeat (first | refine Af ?_ | refine Ac ?_ | refine Aa ?_ | refine Ae ?_ | refine Ad ?_ | refine Ag ?_ | refine Ah ?_ | refine Bd ?_ | refine As ?_ | refine Be ?_ | refine Aw ?_ | refine L.strEq (c := ?_) | refine An ?_ | refine L.buildS (c := fun _ => ?_) | refine L.callQ (hB _) (hpre := fun w hw => Rd.own (hw.holds _ List.mem_cons_self) (by simp) (by decide) 22 rfl) (k := ?_))
  (refine D.ret (vs := [_]) (RV.tmp rfl RV.nil) ?_; intro w' hw; exact Post.mk (is := []) hw List.nodup_nil rfl ⟨by kernel_rfl, rfl⟩)
def ms (b : Int) (l : List Ln) (i : Nat) : List Ln := (l.take i).map (Ln.sh b) ++ l.drop i
section
variable {b : Int} {l : List Ln} {i : Nat} {x : Ln}
end
theorem wrap_64 {n : Int} (h : -4611686018427387904 ≤ n ∧ n ≤ 4611686018427387904) : IntKind.i64.wrap n = n := by
  unfold IntKind.wrap
  simp [IntKind.bits, IntKind.signed]
  omega
end Go.Proofs.Ytbcaelhchmoigaa.Ly
