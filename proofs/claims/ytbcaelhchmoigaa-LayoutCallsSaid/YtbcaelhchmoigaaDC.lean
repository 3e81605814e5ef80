import Derived.Test.YtbcaelhchmoigaaDB
import Derived.Test.YtbcaelhchmoigaaMR
set_option linter.unusedVariables false
set_option linter.unusedSimpArgs false
namespace Go.Proofs.Ytbcaelhchmoigaa
open Go.RowKit Calm SL
attribute [local irreducible] SL.L SL.C SL.D SL.N SL.H SL.QL
theorem rinst_S (x : Ins) (h : x.ok) : Ctr Try.prog 31 [x.V] [] tt (is (.tuple #[.string x.out, .int .i64 (errOf x.chk)]) []) :=
  spec_below (fun w => rinst_any x.op x.d x.s x.t x.mb x.mi x.ms x.md x.imm w h.2)
theorem rsize_S (x : Ins) (h : x.ok) : Ctr Try.prog 39 [x.V] [] tt (is (.int .i64 x.out.size) []) :=
  spec_below (fun w => rsize_any x.op x.d x.s x.t x.mb x.mi x.ms x.md x.imm w h.2)
def pickI (n m : Int) : Int := if m < 1 then 0 else n % m
end Go.Proofs.Ytbcaelhchmoigaa
namespace Go.Proofs.Ytbcaelhchmoigaa
theorem endAt_cons (a k : Nat) (x : Ins) (r : List (Nat × Ins)) : endAt a ((k, x) :: r) = endAt (k + x.enc.length) r := by
  unfold endAt
  rw [List.getLast?_cons]
  cases h : r.getLast? <;> simp
theorem rows_end : ∀ (l : List Int) (a : Nat), (∀ b ∈ l, Byte b) → (rows l a).flatMap (·.2.enc) = l.take (endAt a (rows l a) - a) ∧ a ≤ endAt a (rows l a) ∧ endAt a (rows l a) - a ≤ l.length ∧
    (l.drop (endAt a (rows l a) - a) = [] ∨ (rdD (l.drop (endAt a (rows l a) - a))).2.2 ≠ 0) ∧ ∀ p ∈ rows l a, p.2.ok ∧ p.2.chk = true := by
  intro l
  induction h : l.length using Nat.strongRecOn generalizing l with
  | _ n ih =>
    subst h
    intro a hb
    by_cases hc : l ≠ [] ∧ 0 < (rdD l).2.1 ∧ (rdD l).2.2 = 0
    · have hp := rd_pos hb hc.2.2
      have hg := rd_good hb hc.2.2
      have hn := rd_len hb hc.2.2
      obtain ⟨g1, g2, g3, g4, g5⟩ := ih (l.drop (rdD l).2.1).length (by rw [List.length_drop]; omega) _ rfl (a + (rdD l).2.1) (fun b hb' => hb b (List.mem_of_mem_drop hb'))
      have hr : rows l a = (a, (rdD l).1) :: rows (l.drop (rdD l).2.1) (a + (rdD l).2.1) := by rw [rows, dif_pos hc]
      have he : endAt a (rows l a) = endAt (a + (rdD l).2.1) (rows (l.drop (rdD l).2.1) (a + (rdD l).2.1)) := by rw [hr, endAt_cons, hn]
      have hx : (rdD l).1.enc = l.take (rdD l).2.1 := by
        rcases rd_cases l hb with ⟨x, r, h1, h2, h3, h4⟩ | ⟨_, h4⟩
        · rw [h4]; simp only; conv => rhs; rw [h1]
          rw [List.take_left]
        · rw [h4] at hc; simp at hc
      rw [he]
      generalize endAt (a + (rdD l).2.1) (rows (l.drop (rdD l).2.1) (a + (rdD l).2.1)) = en at *
      rw [List.length_drop] at g3
      have e1 : en - a = (rdD l).2.1 + (en - (a + (rdD l).2.1)) := by omega
      refine ⟨?_, by omega, by omega, ?_, ?_⟩
      · rw [hr, List.flatMap_cons, g1, hx, e1, List.take_add]
      · rw [e1, ← List.drop_drop]; exact g4
      · rw [hr]; intro p hp'
        rcases List.mem_cons.1 hp' with rfl | hp'
        · exact hg
        · exact g5 p hp'
    · have hr : rows l a = [] := by rw [rows, dif_neg hc]
      rw [hr]
      refine ⟨by simp [endAt], Nat.le_refl _, by simp [endAt], ?_, by simp⟩
      simp only [endAt, List.getLast?_nil, Nat.sub_self, List.drop_zero]
      by_cases h0 : l = []
      · exact .inl h0
      · right; intro he
        exact hc ⟨h0, (rd_pos hb he).1, he⟩
end Go.Proofs.Ytbcaelhchmoigaa
