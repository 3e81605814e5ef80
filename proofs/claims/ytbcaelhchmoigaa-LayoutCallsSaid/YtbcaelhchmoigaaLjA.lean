import Derived.Test.YtbcaelhchmoigaaLjP
import Derived.Test.YtbcaelhchmoigaaLyF
import Derived.Test.YtbcaelhchmoigaaFrL
import Derived.Test.YtbcaelhchmoigaaRcF
set_option linter.unusedVariables false
set_option linter.unusedSimpArgs false
namespace Go.Proofs.Ytbcaelhchmoigaa.Ly
open Go Go.RowKit Calm SL
attribute [local irreducible] SL.L SL.C SL.D SL.N SL.H SL.QL SL.QW SL.QP
theorem rjump_S (x : Ins) : Ctr Try.prog 14 [insV x] [] tt (is (.bool x.jump) []) := by
  have hC : Ctr Try.prog 32 [insV x] [] tt (is (.int .i64 (errOf x.chk)) []) := spec_b (fun w => rcheck_any x.op x.d x.s x.t x.mb x.mi x.ms x.md x.imm w)
  have key : (cm .eql (errOf x.chk) 0 = false ∧ x.jump = false) ∨ (cm .eql (errOf x.chk) 0 = true ∧ ((cm .eql x.op 30 = true ∧ x.jump = true) ∨ (cm .eql x.op 30 = false ∧ cm .eql x.op 31 = true ∧ x.jump = true) ∨ (cm .eql x.op 30 = false ∧ cm .eql x.op 31 = false ∧ cm .eql x.op 32 = true ∧ x.jump = true) ∨ (cm .eql x.op 30 = false ∧ cm .eql x.op 31 = false ∧ cm .eql x.op 32 = false ∧ x.jump = false))) := by
    unfold Ins.jump
    cases hc : x.chk with
    | false => left; exact ⟨rfl, by simp⟩
    | true =>
      right
      refine ⟨rfl, ?_⟩
      show (((x.op == 30) = true ∧ _) ∨ _)
      cases h1 : x.op == 30 with
      | true => exact .inl ⟨rfl, by simp⟩
      | false =>
      cases h2 : x.op == 31 with
      | true => exact .inr (.inl ⟨h1, h2, by simp⟩)
      | false =>
      cases h3 : x.op == 32 with
      | true => exact .inr (.inr (.inl ⟨h1, h2, h3, by simp⟩))
      | false => exact .inr (.inr (.inr ⟨h1, h2, h3, by simp⟩))
  unfold insV at hC ⊢
  refine Ctr.enter Try.func14 Try.ntmps14 rfl rfl (fun w _ => ?_)
  rcases key with ⟨c0, he⟩ | ⟨c0, ⟨c1, he⟩ | ⟨c1, c2, he⟩ | ⟨c1, c2, c3, he⟩ | ⟨c1, c2, c3, he⟩⟩
  all_goals rw [he]
  all_goals repeat (first | refine Af ?_ | refine Ac ?_ | refine Aa ?_ | refine Ae ?_ | refine Ad ?_ | refine Ag ?_ | refine Ah ?_ | refine Ay ?_ | refine Ak 0 ?_ | refine Al 0 ?_ | refine L.box (c := fun _ => ?_) | refine Be ?_ | refine Ax ?_ | refine Aw ?_ | refine Bf ?_ | refine An ?_ | refine L.passU (k := ?_) | refine Au (hC) ?_)
  all_goals (refine D.ret (vs := [_]) (RV.tmp rfl RV.nil) ?_; intro w' hw; exact Post.mk (is := []) hw List.nodup_nil rfl ⟨rfl, rfl⟩)
def fnd (l : List Ln) (to goal : Int) : Nat → Bool
  | 0 => false
  | k + 1 => fnd l to goal k || (match l[k]? with | some y => y.lab == to && (total (l.take k) : Int) == goal | none => false)
theorem take_succ_total {l : List Ln} {i : Nat} {x : Ln} (h : l[i]? = some x) : total (l.take (i + 1)) = total (l.take i) + x.size := by rw [take_succ_eq h, total_snoc]
end Go.Proofs.Ytbcaelhchmoigaa.Ly
