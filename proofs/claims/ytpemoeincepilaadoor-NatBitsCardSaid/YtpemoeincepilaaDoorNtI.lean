/- What nat.Read leans on: strings.ToLower by the shelf's contract, as a contract of mine. -/
import Derived.Test.YtpemoeincepilaaDoorNtH
import Derived.Ground.NamesProg
import Derived.Test.YtpemoeincepilaaDoorNtLays
import Derived.Shelf.Strings.CaseAny
set_option linter.unusedVariables false
set_option linter.unusedSimpArgs false
namespace Go.Proofs
open Go.RowKit Go.Shelf

theorem Tryd.lowerExtra : Builder.Extra Tryd.prog Tryd.lowerLay_ren := {
  sizeBuilder := by kernel_rfl
  liesBuilder := by kernel_rfl
  t5 := Tryd.lowerLay.t5
  a5 := Tryd.lowerLay.a5
  z5 := Tryd.lowerLay.z5
  v5 := Tryd.lowerLay.v5
  infoByte := by kernel_rfl
  cellsByte := by kernel_rfl
  sizeByte := by kernel_rfl
  neB5 := by decide }
end Go.Proofs
namespace Go.Proofs.YtpemoeincepilaaDoor.Nt
open Go Go.RowKit SL Go.Shelf
theorem spec_n {f : Nat} {args : List Value} {v : Value} {pre : World → Prop} (h : ∀ w, pre w → Calls Tryd.prog f args.toArray w fun e w' => e = .returned v ∧ Below w.heap.size w w') : Ctr Tryd.prog f args [] pre (is v []) := by
  intro w _ _ hp
  refine (h w hp).mono ?_
  rintro e w' ⟨rfl, hb⟩
  exact ⟨v, [], rfl, ⟨rfl, rfl⟩, Keeps.of_below hb _, by simp [keys], by simp, by simp⟩
theorem lowA_S (s : ByteArray) (hs : s.size ≤ 140737488355328) (ha : ∀ b ∈ s.data.toList, b.toNat < 128) : Ctr Tryd.prog 46 [.string s] [] tt (is (.string ⟨(Lib.toLowerA s.data.toList).toArray⟩) []) :=
  spec_n (fun w _ => Any.strings_ToLower_ascii Tryd.lowerLay Tryd.lowerExtra s w hs (fun j b hb => ha b (List.mem_of_getElem? hb)))
end Go.Proofs.YtpemoeincepilaaDoor.Nt
