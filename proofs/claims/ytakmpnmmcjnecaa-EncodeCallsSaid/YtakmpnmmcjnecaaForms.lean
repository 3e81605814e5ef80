/- inst.forms and inst.of (layer 5): the table of the operations' forms, and a row of it. -/
import Derived.Test.YtakmpnmmcjnecaaRows
import Derived.Test.YtakmpnmmcjnecaaCalm
import Derived.WalkKit
import Derived.WalkSpells
import Derived.WalkLawsBesides
import Derived.Deep.WholeRow
namespace Go.Proofs.Ytakmpnmmcjnecaa
open Go.RowKit Calm

theorem hidd {p : Prop} (h : p) : Hid p := h
theorem und_forms : Try.prog.underlying 98 = some (.array 34 81) := by kernel_rfl
theorem size_forms : (Try.prog.info? 98).map (·.size) = some 136 := by kernel_rfl
def formsCells : Array Value := #[
  .string ⟨#[]⟩, .int .i64 0, .int .i64 0, .int .i64 0,
  .string ⟨#[109, 111, 118]⟩, .int .i64 131, .int .i64 0, .int .i64 0,
  .string ⟨#[109, 111, 118]⟩, .int .i64 161, .int .i64 0, .int .i64 0,
  .string ⟨#[109, 111, 118]⟩, .int .i64 137, .int .i64 0, .int .i64 0,
  .string ⟨#[109, 111, 118]⟩, .int .i64 10, .int .i64 0, .int .i64 0,
  .string ⟨#[108, 101, 97]⟩, .int .i64 137, .int .i64 0, .int .i64 0,
  .string ⟨#[97, 100, 100]⟩, .int .i64 387, .int .i64 0, .int .i64 7,
  .string ⟨#[97, 100, 99]⟩, .int .i64 387, .int .i64 1, .int .i64 7,
  .string ⟨#[115, 117, 98]⟩, .int .i64 387, .int .i64 0, .int .i64 7,
  .string ⟨#[115, 98, 98]⟩, .int .i64 387, .int .i64 1, .int .i64 7,
  .string ⟨#[97, 110, 100]⟩, .int .i64 387, .int .i64 0, .int .i64 7,
  .string ⟨#[111, 114]⟩, .int .i64 387, .int .i64 0, .int .i64 7,
  .string ⟨#[120, 111, 114]⟩, .int .i64 387, .int .i64 0, .int .i64 7,
  .string ⟨#[99, 109, 112]⟩, .int .i64 259, .int .i64 0, .int .i64 7,
  .string ⟨#[116, 101, 115, 116]⟩, .int .i64 259, .int .i64 0, .int .i64 7,
  .string ⟨#[97, 100, 100]⟩, .int .i64 401, .int .i64 0, .int .i64 7,
  .string ⟨#[97, 110, 100]⟩, .int .i64 401, .int .i64 0, .int .i64 7,
  .string ⟨#[115, 117, 98]⟩, .int .i64 401, .int .i64 0, .int .i64 7,
  .string ⟨#[99, 109, 112]⟩, .int .i64 273, .int .i64 0, .int .i64 7,
  .string ⟨#[109, 117, 108, 120]⟩, .int .i64 135, .int .i64 0, .int .i64 0,
  .string ⟨#[97, 100, 99, 120]⟩, .int .i64 387, .int .i64 1, .int .i64 1,
  .string ⟨#[97, 100, 111, 120]⟩, .int .i64 387, .int .i64 2, .int .i64 2,
  .string ⟨#[110, 101, 103]⟩, .int .i64 385, .int .i64 0, .int .i64 7,
  .string ⟨#[110, 111, 116]⟩, .int .i64 385, .int .i64 0, .int .i64 0,
  .string ⟨#[115, 104, 108]⟩, .int .i64 449, .int .i64 0, .int .i64 5,
  .string ⟨#[115, 104, 114]⟩, .int .i64 449, .int .i64 0, .int .i64 5,
  .string ⟨#[99, 109, 111, 118, 99]⟩, .int .i64 387, .int .i64 1, .int .i64 0,
  .string ⟨#[99, 109, 111, 118, 110, 122]⟩, .int .i64 387, .int .i64 4, .int .i64 0,
  .string ⟨#[112, 117, 115, 104]⟩, .int .i64 514, .int .i64 0, .int .i64 0,
  .string ⟨#[112, 111, 112]⟩, .int .i64 641, .int .i64 0, .int .i64 0,
  .string ⟨#[106, 109, 112]⟩, .int .i64 16, .int .i64 0, .int .i64 0,
  .string ⟨#[106, 110, 122]⟩, .int .i64 16, .int .i64 4, .int .i64 0,
  .string ⟨#[106, 99]⟩, .int .i64 16, .int .i64 1, .int .i64 0,
  .string ⟨#[114, 101, 116]⟩, .int .i64 512, .int .i64 0, .int .i64 0]
theorem formsCells_size : formsCells.size = 136 := by kernel_rfl

set_option maxHeartbeats 1000000 in
set_option maxRecDepth 100000 in
theorem forms_any (w : World) :
    Calls Try.prog 76 #[] w fun e w' => e = .returned (.agg formsCells) ∧ w.alloc (.cells formsCells 98) = w' := by
  go_enter Try.func76, Try.ntmps76
  iterate 11 go_step
  refine wpList_calm_store (c' := formsCells) 34 rfl rfl rfl rfl (by kernel_rfl) (by kernel_rfl) (by kernel_rfl) size_forms (by kernel_rfl) (by kernel_rfl) ?_
  intro a' h1 h2
  go_wp2
  exact bodyPost_ret (v := .agg formsCells) (results_cell_row rfl _ _ w.heap.size 98 formsCells (0, 0) _ (by simpa [Act.eval] using h1) (heap_alloc_last _ _) und_forms rfl size_forms) h2 ⟨rfl, rfl⟩

/-- A row of the table. -/
def rowOk (k : Nat) : Bool := match formsCells[k * 4]?, formsCells[k * 4 + 1]?, formsCells[k * 4 + 2]?, formsCells[k * 4 + 3]? with
  | some (.string _), some (.int .i64 _), some (.int .i64 _), some (.int .i64 _) => true
  | _, _, _, _ => false
def strOf : Option Value → ByteArray | some (.string s) => s | _ => ⟨#[]⟩
def numOf : Option Value → Int | some (.int _ n) => n | _ => 0
def fName (op : Int) : ByteArray := if 0 ≤ op ∧ op < 34 then strOf formsCells[op.toNat * 4]? else ⟨#[]⟩
def fIs (op : Int) : Int := if 0 ≤ op ∧ op < 34 then numOf formsCells[op.toNat * 4 + 1]? else 0
def fReads (op : Int) : Int := if 0 ≤ op ∧ op < 34 then numOf formsCells[op.toNat * 4 + 2]? else 0
def fWrites (op : Int) : Int := if 0 ≤ op ∧ op < 34 then numOf formsCells[op.toNat * 4 + 3]? else 0
theorem rows_ok : (List.range 34).all rowOk = true := by kernel_rfl
theorem row_of (op : Int) (h : 0 ≤ op ∧ op < 34) : formsCells[op.toNat * 4]? = some (.string (fName op)) ∧ formsCells[op.toNat * 4 + 1]? = some (.int .i64 (fIs op)) ∧
    formsCells[op.toNat * 4 + 2]? = some (.int .i64 (fReads op)) ∧ formsCells[op.toNat * 4 + 3]? = some (.int .i64 (fWrites op)) := by
  have hk := List.all_eq_true.1 rows_ok op.toNat (by rw [List.mem_range]; omega)
  unfold fName fIs fReads fWrites
  rw [if_pos h, if_pos h, if_pos h, if_pos h]
  unfold rowOk at hk
  split at hk
  · rename_i h1 h2 h3 h4
    rw [h1, h2, h3, h4]; exact ⟨rfl, rfl, rfl, rfl⟩
  · exact absurd hk (by simp)
def fV (op : Int) : Value := .agg #[.string (fName op), .int .i64 (fIs op), .int .i64 (fReads op), .int .i64 (fWrites op)]

set_option maxHeartbeats 1000000 in
set_option maxRecDepth 100000 in
theorem of_yes (op : Int) (w : World) (h : 0 ≤ op ∧ op < 34) :
    Calls Try.prog 43 #[.int .i64 op] w fun e w' => e = .returned (fV op) ∧ Below w.heap.size w w' := by
  obtain ⟨r1, r2, r3, r4⟩ := row_of op h
  obtain ⟨h1, h2⟩ := h
  go_enter Try.func43, Try.ntmps43
  go_wp2_with fail
  go_at_call 76
  refine (forms_any _).mono ?_
  rintro e w1 ⟨rfl, rfl⟩
  go_wp2_with (refine wpList_store_new (c' := formsCells) rfl rfl rfl rfl (by simp) rfl size_forms (by kernel_rfl) (by kernel_rfl) ?_)
  exact bodyPost_ret (v := fV op) (by simp [results, Try.results43, go_sem]; rfl) rfl ⟨rfl, ((((Below.refl _ _).alloc (Nat.le_refl _) _).alloc (by simp) _).alloc (by simp; omega) _)⟩
set_option maxHeartbeats 1000000 in
set_option maxRecDepth 100000 in
theorem of_no (op : Int) (w : World) (h : ¬ (0 ≤ op ∧ op < 34)) :
    Calls Try.prog 43 #[.int .i64 op] w fun e w' => e = .returned (fV op) ∧ Below w.heap.size w w' := by
  have e1 : Hid (fV op = .agg #[.string ⟨#[]⟩, .int .i64 0, .int .i64 0, .int .i64 0]) := by
    show _ = _
    unfold fV fName fIs fReads fWrites; rw [if_neg h, if_neg h, if_neg h, if_neg h]
  have h : op < 0 ∨ 34 ≤ op := by omega
  rcases h with h | h
  all_goals
    go_enter Try.func43, Try.ntmps43
    go_wp2_with fail
    go_at_call 76
    refine (forms_any _).mono ?_
    rintro e w1 ⟨rfl, rfl⟩
    go_wp2_with (refine wpList_store_new (c' := formsCells) rfl rfl rfl rfl (by simp) rfl size_forms (by kernel_rfl) (by kernel_rfl) ?_)
    exact bodyPost_ret (v := .agg #[.string ⟨#[]⟩, .int .i64 0, .int .i64 0, .int .i64 0]) (by simp [results, Try.results43, go_sem]) rfl ⟨by rw [e1.out], ((((Below.refl _ _).alloc (Nat.le_refl _) _).alloc (by simp) _).alloc (by simp; omega) _)⟩
theorem of_any (op : Int) (w : World) :
    Calls Try.prog 43 #[.int .i64 op] w fun e w' => e = .returned (fV op) ∧ Below w.heap.size w w' := by
  by_cases h : 0 ≤ op ∧ op < 34
  · exact of_yes op w h
  · exact of_no op w h
end Go.Proofs.Ytakmpnmmcjnecaa
