/- The law NatTexts, from what is laid. Conditions: those of the row. -/
import Derived.Test.YtpemoeincepilaaDoorNtTt
import Derived.Test.YtpemoeincepilaaDoorFrN
import Derived.Lib.LaidCase
import Derived.Lib.LaidU8
import Derived.PinnedBridge
import Derived.MakeChecks
set_option linter.unusedVariables false
namespace Go.Proofs.YtpemoeincepilaaDoor.Nt
open Go Go.RowKit SL Go.Shelf Go.Lib

theorem tabs_of {w : World} (hL : laidMetH Tryd.prog [("unicode/utf8.acceptRanges", Rows.laid_unicode_utf8_acceptRanges), ("unicode.CaseRanges", Rows.laid_unicode_CaseRanges), ("unicode/utf8.first", Rows.laid_unicode_utf8_first)] w) : Tabs w := by
  rw [MakeChecks.laidMetH_plain _ _ _ (by kernel_rfl)] at hL
  have h1 : VarReads Tryd.prog w "unicode.CaseRanges" caseData := Pinned.caseRanges_eq ▸ Lib.laidMet.reads hL (.tail _ (.head _))
  have h2 : VarReads Tryd.prog w "unicode/utf8.first" firstData := Pinned.utf8First_eq ▸ Lib.laidMet.reads hL (.tail _ (.tail _ (.head _)))
  have h3 : VarReads Tryd.prog w "unicode/utf8.acceptRanges" acceptData := Lib.laidMet.reads hL (.head _)
  exact ⟨caseVar_of_reads (ρ := Tryd.lowerLay_ren) { Tryd.lowerLay with } (by kernel_rfl) ⟨by kernel_rfl, by kernel_rfl, by kernel_rfl, by kernel_rfl, by kernel_rfl, by kernel_rfl⟩ h1,
    utf8Tabs_of_reads (ρ := Tryd.lowerLay_ren) { Tryd.lowerLay with } ⟨by kernel_rfl, by kernel_rfl, by kernel_rfl, by kernel_rfl, by kernel_rfl, by kernel_rfl, by kernel_rfl⟩ h2 h3⟩
theorem _root_.Go.Proofs.YtpemoeincepilaaDoor.natTexts_walk (va : Value) (a : List Nat) (s : ByteArray) (w : World) (ha : Nats w va a) (hL : laidMetH Tryd.prog [("unicode/utf8.acceptRanges", Rows.laid_unicode_utf8_acceptRanges), ("unicode.CaseRanges", Rows.laid_unicode_CaseRanges), ("unicode/utf8.first", Rows.laid_unicode_utf8_first)] w) :
    Calls Tryd.prog 3 #[va, .string s] w fun e w' => e = .returned (.bool true) ∧ Below w.heap.size w w' := natTexts_walk0 va a s w ha (tabs_of hL)
end Go.Proofs.YtpemoeincepilaaDoor.Nt
