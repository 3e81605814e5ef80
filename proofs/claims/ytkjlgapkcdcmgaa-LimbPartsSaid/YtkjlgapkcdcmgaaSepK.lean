/- The separation logic's rules: an own slice is cut at its end. No program in sight. -/
import Derived.Test.YtkjlgapkcdcmgaaSepJ
set_option linter.unusedVariables false
set_option linter.unusedSimpArgs false
namespace Go.Proofs.Ytkjlgapkcdcmgaa.SL
open Go Go.RowKit
section
variable {P : Program} {ops : Array Oper} {Q : Exit → Act → World → Prop} {s : St} {E : Env} {M : Hp} {rest : List Oper} {d t : Nat} {pos : String} {af : Array Edge}
/-- An own slice is cut: its block stays as it is. -/
theorem L.cutU {T e sz n m k : Nat} {x : Operand} {y z : Option Operand} {cs : List Value} {o : OS} [hT : Und P T (.slice e)] [hS : Siz P e sz] (hG : osG n m cs o) (hk : k ≤ m) (hz : ∃ o q, z = some o ∧ ev E o = some (.int q (k : Int)))
    (hd : Nat.blt d s.n = true := by exact rfl) (hx : ev E x = some (osV m o) := by exact rfl) (hy : (y = none ∧ 0 = 0) ∨ ∃ o q, y = some o ∧ ev E o = some (.int q ((0 : Nat) : Int)) := by exact .inl ⟨rfl, rfl⟩)
    (c : osG n k (cs.take (k * n)) o → L P ops Q rest s ((d, osV k o) :: E) M) : L P ops Q (⟨some d, .slice T x y z none, t, pos, af, none⟩ :: rest) s E M := by
  have hc : SlV (osV m o) m := hG.sl
  obtain ⟨p, cap, hv, hc, hp⟩ := hc
  have hh := fun (a : Act) (w : World) (hs : Sat s E M a w) => bounds_run (P := P) (w := w) (sl := true) (n := m) (cap := cap) (opt_ev hs hy) (opt_ev (k := m) hs (.inr hz)) (Nat.zero_le _) (Nat.le_trans hk hc)
  have hval : (Value.slice (if cap = 0 then p else p.map (·.add (0 * sz))) (k - 0) (cap - 0)) = osV k o := by
    rcases o with _ | ⟨b, l, cap'⟩
    · obtain ⟨rfl, rfl⟩ := hG
      simp only [osV] at hv ⊢
      cases hv
      simp; omega
    · simp only [osV] at hv ⊢
      cases hv
      simp [add_at]
  refine L.calm (S := fun ρ => Instr.sliceAt T (ρ x) (y.map ρ) (z.map ρ) none) (v := osV k o) hd (fun _ => rfl) (fun a w hs => ?_) (c ?_)
  · show (Instr.sliceAt T (a.eval x) (y.map a.eval) (z.map a.eval) none).run P w = _
    rw [hs.ev hx, hv]
    unfold Instr.sliceAt
    rw [run_bind_ok und_run]
    simp only
    unfold Instr.slice
    rw [run_bind_ok und_run]
    simp only
    refine (run_bind_ok (hh a w hs)).trans ?_
    simp only
    rw [run_bind_ok (siz_run hS.out), ← hval]
    rfl
  · rcases o with _ | ⟨b, l, cap'⟩
    · obtain ⟨rfl, rfl⟩ := hG
      exact ⟨by omega, by simp⟩
    · obtain ⟨h1, h2, h3, h4⟩ := hG
      refine ⟨h1, by omega, h3, ?_⟩
      rw [← h4, List.take_take, Nat.min_eq_left (Nat.mul_le_mul_right _ hk)]
/-- A drawn region that makes memory, and turns none of one's own. -/
theorem C.makeA {id : Nat} {l : List Oper} (hE2 : e3B l E = true := by kernel_rfl) (hm : P.follows .mixedOrders = true := by kernel_rfl)
    (h : QP P l.toArray Q M s M l [] E) : C P (.region id l.toArray true) Q s E M := C.make M hE2 hm h
end
end Go.Proofs.Ytkjlgapkcdcmgaa.SL
