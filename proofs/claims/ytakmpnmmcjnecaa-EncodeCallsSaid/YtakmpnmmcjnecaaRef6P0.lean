/- Laws for keysmithref06.place: rows of bytes made and lengthened. Conditions: none. -/
import Derived.Test.YtakmpnmmcjnecaaRef6A
namespace Go.Proofs.Ytakmpnmmcjnecaa
open Go.RowKit Calm

theorem IsB.cast {w : World} {B : Nat} {v : Value} {xs ys : List Int} (h : IsB w B v xs) (e : xs = ys) : IsB w B v ys := e ▸ h
theorem rp_one (w : World) (mb mi ms md x : Int) :
    IsB ((w.alloc (.cells #[.int .i64 mb, .int .i64 mi, .int .i64 ms, .int .i64 md] 23)).alloc (.cells #[.int .u8 x] 5)) (w.heap.size + 1) (.slice (some ⟨w.heap.size + 1, 0, none⟩) 1 1) [x] ∧
    ∀ w2, Below (w.heap.size + 1) ((w.alloc (.cells #[.int .i64 mb, .int .i64 mi, .int .i64 ms, .int .i64 md] 23)).alloc (.cells #[.int .u8 x] 5)) w2 → Below w.heap.size w w2 ∧ w.heap.size + 1 ≤ w2.heap.size := by
  have h1 := IsB.lit (w.alloc (.cells #[.int .i64 mb, .int .i64 mi, .int .i64 ms, .int .i64 md] 23)) (w.heap.size + 1) [x] 1 rfl #[.int .u8 x] rfl (by simp) (by simp)
  rw [World.size_alloc] at h1
  refine ⟨h1, fun w2 hb => ⟨(bal (bal (Below.refl _ _) _) _).trans (hb.mono (by omega)), by have := hb.size; simp at this; omega⟩⟩
theorem rp_two (w : World) (mb mi ms md x y : Int) :
    IsB (((w.alloc (.cells #[.int .i64 mb, .int .i64 mi, .int .i64 ms, .int .i64 md] 23)).alloc (.cells #[.int .u8 x] 5)).drew.alloc (.cells #[.int .u8 y] 5)) (w.heap.size + 1) (.slice (some ⟨w.heap.size + 1, 0, none⟩) 1 1) [x] ∧
    IsB (((w.alloc (.cells #[.int .i64 mb, .int .i64 mi, .int .i64 ms, .int .i64 md] 23)).alloc (.cells #[.int .u8 x] 5)).drew.alloc (.cells #[.int .u8 y] 5)) (w.heap.size + 1) (.slice (some ⟨w.heap.size + 1 + 1, 0, none⟩) 1 1) [y] ∧
    (w.heap.size + 1 ≤ (((w.alloc (.cells #[.int .i64 mb, .int .i64 mi, .int .i64 ms, .int .i64 md] 23)).alloc (.cells #[.int .u8 x] 5)).drew.alloc (.cells #[.int .u8 y] 5)).heap.size) ∧
    ∀ w2, Below (w.heap.size + 1) (((w.alloc (.cells #[.int .i64 mb, .int .i64 mi, .int .i64 ms, .int .i64 md] 23)).alloc (.cells #[.int .u8 x] 5)).drew.alloc (.cells #[.int .u8 y] 5)) w2 →
      Below w.heap.size w w2 ∧ w2.cell? { block := w.heap.size, off := 3 } = some (.int .i64 md) ∧ w.heap.size + 1 ≤ w2.heap.size := by
  have h1 := (rp_one w mb mi ms md x).1
  have h1' : IsB ((w.alloc (.cells #[.int .i64 mb, .int .i64 mi, .int .i64 ms, .int .i64 md] 23)).alloc (.cells #[.int .u8 x] 5)).drew (w.heap.size + 1) (.slice (some ⟨w.heap.size + 1, 0, none⟩) 1 1) [x] := h1
  have hz : ((w.alloc (.cells #[.int .i64 mb, .int .i64 mi, .int .i64 ms, .int .i64 md] 23)).alloc (.cells #[.int .u8 x] 5)).drew.heap.size = w.heap.size + 1 + 1 := by show ((w.alloc (.cells #[.int .i64 mb, .int .i64 mi, .int .i64 ms, .int .i64 md] 23)).alloc (.cells #[.int .u8 x] 5)).heap.size = _; simp
  have h2 := IsB.lit ((w.alloc (.cells #[.int .i64 mb, .int .i64 mi, .int .i64 ms, .int .i64 md] 23)).alloc (.cells #[.int .u8 x] 5)).drew (w.heap.size + 1) [y] 1 rfl #[.int .u8 y] rfl (by rw [hz]; omega) (by simp)
  rw [hz] at h2
  refine ⟨h1'.alloc _, h2, by rw [World.size_alloc, hz]; omega, fun w2 hb => ⟨?_, ?_, ?_⟩⟩
  · have hb0 : Below w.heap.size w (((w.alloc (.cells #[.int .i64 mb, .int .i64 mi, .int .i64 ms, .int .i64 md] 23)).alloc (.cells #[.int .u8 x] 5)).drew.alloc (.cells #[.int .u8 y] 5)) := bal (below_dr (bal (bal (Below.refl _ _) _) _)) _
    exact hb0.trans (hb.mono (by omega))
  · refine cellk hb (by simp) ?_
    refine cella _ ?_
    show ((w.alloc (.cells #[.int .i64 mb, .int .i64 mi, .int .i64 ms, .int .i64 md] 23)).alloc (.cells #[.int .u8 x] 5)).cell? _ = _
    refine cella _ ?_
    rw [World.cell?_alloc_new]; rfl
  · have := hb.size
    rw [World.size_alloc, hz] at this
    omega
end Go.Proofs.Ytakmpnmmcjnecaa
