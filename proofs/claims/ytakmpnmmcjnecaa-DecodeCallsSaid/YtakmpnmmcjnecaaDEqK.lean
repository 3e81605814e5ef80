/- Instructions compared; the cells of an own slice of them. -/
import Derived.Test.YtakmpnmmcjnecaaDCutL
namespace Go.Proofs.Ytakmpnmmcjnecaa
open Go.RowKit Calm SL

theorem eqK_inst (x : Ins) : eqK [.int .i64, .int .i64, .int .i64, .int .i64, .int .i64, .int .i64, .int .i64, .int .i64, .int .i64] (cells9 x) (cells9 x) = some true := by
  unfold cells9
  simp [eqK, eqL]
theorem own_cells {l : List Value} {xs : List Ins} {i : Nat} {x : Ins} (hl : l.take (xs.length * 9) = xs.flatMap cells9) (hx : xs[i]? = some x) : (l.drop (i * 9)).take 9 = cells9 x := by
  have hi : i < xs.length := (List.getElem?_eq_some_iff.1 hx).1
  have key : ∀ (xs : List Ins) (i : Nat), xs[i]? = some x → ((xs.flatMap cells9).drop (i * 9)).take 9 = cells9 x := by
    intro xs
    induction xs with
    | nil => intro i h; simp at h
    | cons y xs ih =>
      intro i h
      rw [List.flatMap_cons]
      cases i with
      | zero => cases h; rw [Nat.zero_mul, List.drop_zero]; exact List.take_left' rfl
      | succ i =>
        have e : (i + 1) * 9 = (cells9 y).length + i * 9 := by simp [cells9]; omega
        rw [e, ← List.drop_drop, List.drop_left]
        exact ih i (by simpa using h)
  have h2 := key xs i hx
  rw [← hl, List.drop_take, List.take_take] at h2
  rwa [Nat.min_eq_left (by omega)] at h2
end Go.Proofs.Ytakmpnmmcjnecaa
