/- Rows of limbs as arguments, opened. Conditions: none. -/
import Derived.Test.YtkjlgapkcdcmgaaFrP
import Derived.Test.YtkjlgapkcdcmgaaLk26
set_option linter.unusedVariables false
set_option linter.unusedSimpArgs false
namespace Go.Proofs.Ytkjlgapkcdcmgaa
open Go.ChangeShapes Go.WideShapes Go.ChangeAt Go.RowKit SL

theorem trod_u64 {H : Type} {enc : TypeId × Value → H} {W : World} {base : Nat} {sp : Nat → Bool} {held : Bool} {fuel : Nat} {cs : List Value} {x : DataW H × List MemPlace}
    (hf : DataW.trod enc Try.prog W base sp held fuel 37 cs = some x) : ∃ y : Int, cs = [.int .u64 y] ∧ U64 y := by
  obtain ⟨a, e, _, w⟩ := DataW.trod_int Try.underlying37 hf
  exact ⟨a, e, u64_of_wf w⟩
theorem flat_one {α : Type} (f : α → Value) (l : List α) : l.flatMap (fun x => [f x]) = l.map f := by
  induction l with
  | nil => rfl
  | cons a l ih => simp [ih]
theorem trod_row {H : Type} {enc : TypeId × Value → H} {W : World} {base : Nat} {sp : Nat → Bool} {held : Bool} {fuel : Nat} {cs : List Value} {x : DataW H × List MemPlace}
    (hf : DataW.trod enc Try.prog W base sp held fuel 47 cs = some x) : ∃ y : Value × List Int, cs = [y.1] ∧ ((∀ u ∈ y.2, U64 u) ∧ y.2.length ≤ maxLen ∧ Rd W [] y.1 y.2.length (y.2.map u64)) := by
  obtain ⟨v, l, hv, h1, h2, h3⟩ := open_rowsG Try.underlying47 (show Try.prog.cellsOf 37 = 0 + 1 by kernel_rfl) (fun x : Int => [.int .u64 x]) (fun _ => rfl) U64 (fun _ _ _ _ hf => trod_u64 hf) hf
  rw [flat_one] at h3
  exact ⟨(v, l), hv, h1, h2, h3⟩
/-- What an argument of rows is. -/
structure RowsA (W : World) (v : Value) (rs : Rws) : Prop where
  len : rs.length ≤ maxLen
  ok : ∀ r ∈ rs, (∀ u ∈ r.2, U64 u) ∧ r.2.length ≤ maxLen
  rd : RdR W [] v rs
set_option maxRecDepth 100000 in
theorem open_rows {H : Type} {enc : TypeId × Value → H} {W : World} {base b : Nat} {sp : Nat → Bool} {held : Bool} {r : Reach} {v : Value} {d : DataW H} {ps : List MemPlace} (hok : Value.okWide Try.prog W r b 43 v)
    (h : DataW.Trod enc Try.prog W base sp held 43 v d ps) : ∃ rs : Rws, RowsA W v rs := by
  obtain ⟨a, len, cap, rfl⟩ := okWide_slice Try.underlying43 hok
  obtain ⟨fuel, hf⟩ := h
  obtain ⟨v', l, hv, h1, h2, h3⟩ := open_rowsG Try.underlying43 (show Try.prog.cellsOf 47 = 0 + 1 by kernel_rfl) (fun y : Value × List Int => [y.1]) (fun _ => rfl) (fun y => (∀ u ∈ y.2, U64 u) ∧ y.2.length ≤ maxLen ∧ Rd W [] y.1 y.2.length (y.2.map u64)) (fun _ _ _ _ hf => trod_row hf) hf
  have e : (.slice a len cap : Value) = v' := by simpa [Value.cells] using hv
  subst e
  rw [flat_one] at h3
  exact ⟨l, h2, fun r hr => ⟨(h1 r hr).1, (h1 r hr).2.1⟩, h3, fun r hr => (h1 r hr).2.2⟩
end Go.Proofs.Ytkjlgapkcdcmgaa
