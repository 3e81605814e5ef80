/- What fields tells of registers. -/
import Derived.Test.YtkjlgapkcdcmgaaLk7
set_option linter.unusedVariables false
set_option linter.unusedSimpArgs false
namespace Go.Proofs.Ytkjlgapkcdcmgaa
open Go Go.RowKit SL
theorem rf_bad {regs : Int} {bs : List Bf} {o : Lop} (h : rfields regs bs o = true) : (cm .lss o.k 1 || cm .gtr o.k 17) = false ∧ rbad regs o = false := by
  unfold rfields at h
  split at h
  · cases h
  · split at h
    · cases h
    · rename_i h1 h2
      exact ⟨by simpa using h1, by simpa using h2⟩
theorem rf_makes {regs : Int} {bs : List Bf} {o : Lop} (h : rfields regs bs o = true) : ∀ r ∈ makesM o, 0 ≤ r ∧ r < regs := by
  obtain ⟨h1, h2⟩ := rf_bad h
  unfold makesM
  simp only [rbad, fieldM, cm, hasE, mem] at *
  intro r hr
  grind
theorem kinds {o : Lop} (h : (cm .lss o.k 1 || cm .gtr o.k 17) = false) : o.k = 1 ∨ o.k = 2 ∨ o.k = 3 ∨ o.k = 4 ∨ o.k = 5 ∨ o.k = 6 ∨ o.k = 7 ∨ o.k = 8 ∨ o.k = 9 ∨ o.k = 10 ∨ o.k = 11 ∨ o.k = 12 ∨ o.k = 13 ∨ o.k = 14 ∨ o.k = 15 ∨ o.k = 16 ∨ o.k = 17 := by
  simp [cm] at h
  omega
theorem rf_takes {regs : Int} {bs : List Bf} {o : Lop} (h : rfields regs bs o = true) : ∀ r ∈ takesM o, 0 ≤ r ∧ r < regs := by
  obtain ⟨h1, h2⟩ := rf_bad h
  have hk := kinds h1
  clear h h1
  intro r hr
  rcases hk with hk | hk | hk | hk | hk | hk | hk | hk | hk | hk | hk | hk | hk | hk | hk | hk | hk
  all_goals (simp [rbad, fieldM, cm, hasE, mem, takesM, hk] at h2 hr; try (first | omega | grind))
theorem makes_len (o : Lop) : (makesM o).length ≤ 2 := by unfold makesM; (repeat' split) <;> simp
theorem takes_len (o : Lop) : (takesM o).length ≤ 3 := by unfold takesM; (repeat' split) <;> simp
theorem makes_loop {o : Lop} (h : o.k = 16) : makesM o = [o.d] := by unfold makesM; simp [h, cm]
theorem mdAt_get {l : List Bool} {r : Int} {b : Bool} (h : l[r.toNat]? = some b) : mdAt l r = b := by unfold mdAt; rw [h]; rfl
theorem setAll_take {l : List Bool} {rs : List Int} {j : Nat} {q : Int} (h : rs[j]? = some q) : setAll l (rs.take (j + 1)) = (setAll l (rs.take j)).set q.toNat true := by
  unfold setAll; rw [List.take_add_one, h, List.foldl_append]; rfl
end Go.Proofs.Ytkjlgapkcdcmgaa
