/- keysmithlaw10's lives; Own of lines; lines whose labels are moved, in place. Conditions: numbers are numbers of 64 bits. -/
import Derived.Test.YtbcaelhchmoigaaLyE
import Derived.Test.YtbcaelhchmoigaaSepGZ
set_option linter.unusedVariables false
set_option linter.unusedSimpArgs false
namespace Go.Proofs.Ytbcaelhchmoigaa.Ly
open Go Go.RowKit Calm SL
attribute [local irreducible] SL.L SL.C SL.D SL.N SL.H SL.QL SL.QW SL.QP

def two : List Ln := [⟨1, ⟨0, 0, 0, 0, 0, 0, 0, 0, 0⟩, 0⟩, ⟨0, ⟨30, 0, 0, 0, 0, 0, 0, 0, 0⟩, 1⟩]
theorem two_bytes : lbytes two = (⟨#[233, 251, 255, 255, 255]⟩, 0) := by kernel_rfl
set_option maxRecDepth 100000 in
set_option maxHeartbeats 2000000 in
theorem lives_S : Ctr Try.prog 9 [] [] tt (is (.bool true) []) := by
  have hB := fun v => lbytes_S two (by decide) (by unfold two; intro x hx; simp only [List.mem_cons, List.not_mem_nil, or_false] at hx; rcases hx with rfl | rfl <;> exact ⟨by decide, by unfold Ins.ok; decide, by decide⟩) v
  rw [two_bytes] at hB
  refine Ctr.enter Try.func9 Try.ntmps9 rfl rfl (fun w _ => ?_)
  repeat (first | refine C.seq ?_ | refine C.region ?_ | refine L.nil ?_ | refine D.seq ?_ | refine L.move (k := ?_) | refine L.assign (k := ?_) | refine L.cm (c := ?_) | refine L.extract (c := ?_) | refine L.build (c := ?_) | refine L.pickT (k := ?_) | refine L.want (k := ?_) | refine L.strEq (c := ?_) | refine C.ret ?_ | refine L.buildS (c := fun _ => ?_) | refine L.callQ (hB _) (hpre := fun w hw => Rd.own (hw.holds _ List.mem_cons_self) (by simp) (by decide) 22 rfl) (k := ?_))
  (refine D.ret (vs := [_]) (RV.tmp rfl RV.nil) ?_; intro w' hw; exact Post.mk (is := []) hw List.nodup_nil rfl ⟨by kernel_rfl, rfl⟩)
/-- Lines, the first ones with their labels moved. -/
def ms (b : Int) (l : List Ln) (i : Nat) : List Ln := (l.take i).map (Ln.sh b) ++ l.drop i
section
variable {b : Int} {l : List Ln} {i : Nat} {x : Ln}
end
end Go.Proofs.Ytbcaelhchmoigaa.Ly
