import Derived.WalkKit
import Derived.KernelRfl
import Derived.Deep.WholeRow
import Derived.Test.YtbcaelhchmoigaaRows
import Derived.WalkSpells
import Derived.WalkLawsBesides
import Derived.BigGuardPart
import Derived.Deep.QuietTactic
import Derived.BigQuiet
import Derived.Laws.AppendOwnNone
set_option maxHeartbeats 4000000
set_option maxRecDepth 100000
set_option linter.unusedVariables false
set_option linter.unusedSimpArgs false
namespace Go.Proofs.Ytbcaelhchmoigaa.Calm
open Go
def calm {α : Type} (P : Program) : Sem α → Option α
  | .pure a => some a
  | .program k => calm P (k P)
  | .mark _ k => calm P k
  | _ => none
theorem run_calm {α : Type} {P : Program} : ∀ (s : Sem α) {x : α}, calm P s = some x → ∀ w, s.run P w = .ok x w
  | .pure a, x, h, w => by simp only [calm, Option.some.injEq] at h; subst h; rfl
  | .program k, x, h, w => run_calm (k P) h w
  | .mark _ k, x, h, w => run_calm k h w
  | .load .., _, h, _ => by simp [calm] at h
  | .store .., _, h, _ => by simp [calm] at h
  | .new .., _, h, _ => by simp [calm] at h
  | .shape .., _, h, _ => by simp [calm] at h
  | .freeze .., _, h, _ => by simp [calm] at h
  | .frozen .., _, h, _ => by simp [calm] at h
  | .getObj .., _, h, _ => by simp [calm] at h
  | .setObj .., _, h, _ => by simp [calm] at h
  | .choose .., _, h, _ => by simp [calm] at h
  | .sys .., _, h, _ => by simp [calm] at h
  | .halt _, _, h, _ => by simp [calm] at h
def calmRun (P : Program) : List Oper → Act → Option Act
  | [], a => some a
  | o :: rest, a =>
    match o.guard with
    | some _ => none
    | none =>
      match calm P (execOp a.eval o) with
      | some (.value v) => calmRun P rest (a.put o.dst v)
      | _ => none
theorem wpList_calm {P : Program} {ops : Array Oper} {Q : Exit → Act → World → Prop} {rest : List Oper} : ∀ (l : List Oper) {a a' : Act} {w : World},
    calmRun P l a = some a' → wpList P ops Q rest a' w → wpList P ops Q (l ++ rest) a w
  | [], a, a', w, h, hk => by simp only [calmRun, Option.some.injEq] at h; subst h; exact hk
  | o :: l, a, a', w, h, hk => by
    unfold calmRun at h
    split at h
    · exact absurd h (by simp)
    · rename_i hg
      split at h
      · rename_i v hv
        have hr := run_calm _ hv w
        refine wpList_plain hg (fun K hK => ?_)
        unfold Oper.wp
        rw [hr]
        exact hK _ _ (wpList_calm l h hk)
      · exact absurd h (by simp)
theorem wpList_calm_store {P : Program} {ops : Array Oper} {Q : Exit → Act → World → Prop} {l : List Oper} {a : Act} {w : World} (n : Nat) {o : Oper} (hl : l.drop n = [o])
    {ty : TypeId} {x y : Operand} (ho : o.op = .store ty x y) (hgd : o.guard = none) (hdst : o.dst = none) {c c' : Array Value}
    (h1 : (calmRun P (l.take n) a).map (·.eval x) = some (.pointer (some ⟨w.heap.size, 0, none⟩))) (h2 : (calmRun P (l.take n) a).map (·.eval y) = some (.agg c'))
    (h3 : (calmRun P (l.take n) a).map (·.defers) = some []) (hi : (P.info? ty).map (·.size) = some c'.size) (hs : c.size = c'.size) (h1c : c'.all (·.oneCell') = true)
    (hk : ∀ a' : Act, a'.eval x = .pointer (some ⟨w.heap.size, 0, none⟩) → a'.defers = [] → Q .normal a' (w.alloc (.cells c' ty))) : wpList P ops Q l a (w.alloc (.cells c ty)) := by
  cases e : calmRun P (l.take n) a with
  | none => rw [e] at h1; simp at h1
  | some a' =>
    rw [e] at h1 h2 h3
    simp only [Option.map_some, Option.some.injEq] at h1 h2 h3
    rw [← List.take_append_drop n l, hl]
    refine wpList_calm (l.take n) e ?_
    refine wpList_plain hgd (fun K hK => ?_)
    have hr : (execOp a'.eval o).run P (w.alloc (.cells c ty)) = .ok .skip (w.alloc (.cells c' ty)) := by
      unfold execOp
      rw [ho]
      simp only [h1, h2, Sem.run_bind, run_storeAt_new w ty c c' hi hs h1c, Result.andThen, Sem.run_pure]
    unfold Oper.wp
    rw [hr]
    refine hK _ _ ?_
    rw [hdst]
    exact hk _ h1 h3
theorem wpList_store_new {P : Program} {ops : Array Oper} {Q : Exit → Act → World → Prop} {rest : List Oper} {a : Act} {w : World} {o : Oper}
    {ty : TypeId} {x y : Operand} (ho : o.op = .store ty x y) (hgd : o.guard = none) (hdst : o.dst = none) {c c' : Array Value}
    {n : Nat} (h1 : a.eval x = .pointer (some ⟨n, 0, none⟩)) (hn : n = w.heap.size) (h2 : a.eval y = .agg c') (hi : (P.info? ty).map (·.size) = some c'.size) (hs : c.size = c'.size) (h1c : c'.all (·.oneCell') = true)
    (hk : wpList P ops Q rest a (w.alloc (.cells c' ty))) : wpList P ops Q (o :: rest) a (w.alloc (.cells c ty)) := by
  subst hn
  refine wpList_plain hgd (fun K hK => ?_)
  have hr : (execOp a.eval o).run P (w.alloc (.cells c ty)) = .ok .skip (w.alloc (.cells c' ty)) := by
    unfold execOp
    rw [ho]
    simp only [h1, h2, Sem.run_bind, run_storeAt_new w ty c c' hi hs h1c, Result.andThen, Sem.run_pure]
  unfold Oper.wp
  rw [hr]
  refine hK _ _ ?_
  rw [hdst]
  exact hk
end Go.Proofs.Ytbcaelhchmoigaa.Calm
namespace Go.Proofs.Ytbcaelhchmoigaa
open Go.RowKit Calm
theorem hidd {p : Prop} (h : p) : Hid p := h
theorem und_forms : Try.prog.underlying 113 = some (.array 34 97) := by kernel_rfl
theorem size_forms : (Try.prog.info? 113).map (·.size) = some 136 := by kernel_rfl
def formsCells : Array Value := #[
  .string ⟨#[]⟩, .int .i64 0, .int .i64 0, .int .i64 0,
  .string ⟨#[109, 111, 118]⟩, .int .i64 131, .int .i64 0, .int .i64 0,
  .string ⟨#[109, 111, 118]⟩, .int .i64 161, .int .i64 0, .int .i64 0,
  .string ⟨#[109, 111, 118]⟩, .int .i64 137, .int .i64 0, .int .i64 0,
  .string ⟨#[109, 111, 118]⟩, .int .i64 10, .int .i64 0, .int .i64 0,
  .string ⟨#[108, 101, 97]⟩, .int .i64 137, .int .i64 0, .int .i64 0,
  .string ⟨#[97, 100, 100]⟩, .int .i64 387, .int .i64 0, .int .i64 7,
  .string ⟨#[97, 100, 99]⟩, .int .i64 387, .int .i64 1, .int .i64 7,
  .string ⟨#[115, 117, 98]⟩, .int .i64 387, .int .i64 0, .int .i64 7,
  .string ⟨#[115, 98, 98]⟩, .int .i64 387, .int .i64 1, .int .i64 7,
  .string ⟨#[97, 110, 100]⟩, .int .i64 387, .int .i64 0, .int .i64 7,
  .string ⟨#[111, 114]⟩, .int .i64 387, .int .i64 0, .int .i64 7,
  .string ⟨#[120, 111, 114]⟩, .int .i64 387, .int .i64 0, .int .i64 7,
  .string ⟨#[99, 109, 112]⟩, .int .i64 259, .int .i64 0, .int .i64 7,
  .string ⟨#[116, 101, 115, 116]⟩, .int .i64 259, .int .i64 0, .int .i64 7,
  .string ⟨#[97, 100, 100]⟩, .int .i64 401, .int .i64 0, .int .i64 7,
  .string ⟨#[97, 110, 100]⟩, .int .i64 401, .int .i64 0, .int .i64 7,
  .string ⟨#[115, 117, 98]⟩, .int .i64 401, .int .i64 0, .int .i64 7,
  .string ⟨#[99, 109, 112]⟩, .int .i64 273, .int .i64 0, .int .i64 7,
  .string ⟨#[109, 117, 108, 120]⟩, .int .i64 135, .int .i64 0, .int .i64 0,
  .string ⟨#[97, 100, 99, 120]⟩, .int .i64 387, .int .i64 1, .int .i64 1,
  .string ⟨#[97, 100, 111, 120]⟩, .int .i64 387, .int .i64 2, .int .i64 2,
  .string ⟨#[110, 101, 103]⟩, .int .i64 385, .int .i64 0, .int .i64 7,
  .string ⟨#[110, 111, 116]⟩, .int .i64 385, .int .i64 0, .int .i64 0,
  .string ⟨#[115, 104, 108]⟩, .int .i64 449, .int .i64 0, .int .i64 5,
  .string ⟨#[115, 104, 114]⟩, .int .i64 449, .int .i64 0, .int .i64 5,
  .string ⟨#[99, 109, 111, 118, 99]⟩, .int .i64 387, .int .i64 1, .int .i64 0,
  .string ⟨#[99, 109, 111, 118, 110, 122]⟩, .int .i64 387, .int .i64 4, .int .i64 0,
  .string ⟨#[112, 117, 115, 104]⟩, .int .i64 514, .int .i64 0, .int .i64 0,
  .string ⟨#[112, 111, 112]⟩, .int .i64 641, .int .i64 0, .int .i64 0,
  .string ⟨#[106, 109, 112]⟩, .int .i64 16, .int .i64 0, .int .i64 0,
  .string ⟨#[106, 110, 122]⟩, .int .i64 16, .int .i64 4, .int .i64 0,
  .string ⟨#[106, 99]⟩, .int .i64 16, .int .i64 1, .int .i64 0,
  .string ⟨#[114, 101, 116]⟩, .int .i64 512, .int .i64 0, .int .i64 0]
theorem forms_any (w : World) :
    Calls Try.prog 83 #[] w fun e w' => e = .returned (.agg formsCells) ∧ w.alloc (.cells formsCells 113) = w' := by
  go_enter Try.func83, Try.ntmps83
  iterate 11 go_step
  refine wpList_calm_store (c' := formsCells) 34 rfl rfl rfl rfl (by kernel_rfl) (by kernel_rfl) (by kernel_rfl) size_forms (by kernel_rfl) (by kernel_rfl) ?_
  intro a' h1 h2
  go_wp2
  exact bodyPost_ret (v := .agg formsCells) (results_cell_row rfl _ _ w.heap.size 113 formsCells (0, 0) _ (by simpa [Act.eval] using h1) (heap_alloc_last _ _) und_forms rfl size_forms) h2 ⟨rfl, rfl⟩
def rowOk (k : Nat) : Bool := match formsCells[k * 4]?, formsCells[k * 4 + 1]?, formsCells[k * 4 + 2]?, formsCells[k * 4 + 3]? with
  | some (.string _), some (.int .i64 _), some (.int .i64 _), some (.int .i64 _) => true
  | _, _, _, _ => false
def strOf : Option Value → ByteArray | some (.string s) => s | _ => ⟨#[]⟩
def numOf : Option Value → Int | some (.int _ n) => n | _ => 0
def fName (op : Int) : ByteArray := if 0 ≤ op ∧ op < 34 then strOf formsCells[op.toNat * 4]? else ⟨#[]⟩
def fIs (op : Int) : Int := if 0 ≤ op ∧ op < 34 then numOf formsCells[op.toNat * 4 + 1]? else 0
def fReads (op : Int) : Int := if 0 ≤ op ∧ op < 34 then numOf formsCells[op.toNat * 4 + 2]? else 0
def fWrites (op : Int) : Int := if 0 ≤ op ∧ op < 34 then numOf formsCells[op.toNat * 4 + 3]? else 0
theorem rows_ok : (List.range 34).all rowOk = true := by kernel_rfl
theorem row_of (op : Int) (h : 0 ≤ op ∧ op < 34) : formsCells[op.toNat * 4]? = some (.string (fName op)) ∧ formsCells[op.toNat * 4 + 1]? = some (.int .i64 (fIs op)) ∧
    formsCells[op.toNat * 4 + 2]? = some (.int .i64 (fReads op)) ∧ formsCells[op.toNat * 4 + 3]? = some (.int .i64 (fWrites op)) := by
  have hk := List.all_eq_true.1 rows_ok op.toNat (by rw [List.mem_range]; omega)
  unfold fName fIs fReads fWrites
  rw [if_pos h, if_pos h, if_pos h, if_pos h]
  unfold rowOk at hk
  split at hk
  · rename_i h1 h2 h3 h4
    rw [h1, h2, h3, h4]; exact ⟨rfl, rfl, rfl, rfl⟩
  · exact absurd hk (by simp)
def fV (op : Int) : Value := .agg #[.string (fName op), .int .i64 (fIs op), .int .i64 (fReads op), .int .i64 (fWrites op)]
theorem of_yes (op : Int) (w : World) (h : 0 ≤ op ∧ op < 34) :
    Calls Try.prog 56 #[.int .i64 op] w fun e w' => e = .returned (fV op) ∧ Below w.heap.size w w' := by
  obtain ⟨r1, r2, r3, r4⟩ := row_of op h
  obtain ⟨h1, h2⟩ := h
  go_enter Try.func56, Try.ntmps56
  go_wp2_with fail
  go_at_call 83
  refine (forms_any _).mono ?_
  rintro e w1 ⟨rfl, rfl⟩
  go_wp2_with (refine wpList_store_new (c' := formsCells) rfl rfl rfl rfl (by simp) rfl size_forms (by kernel_rfl) (by kernel_rfl) ?_)
  exact bodyPost_ret (v := fV op) (by simp [results, Try.results56, go_sem]; rfl) rfl ⟨rfl, ((((Below.refl _ _).alloc (Nat.le_refl _) _).alloc (by simp) _).alloc (by simp; omega) _)⟩
theorem of_no (op : Int) (w : World) (h : ¬ (0 ≤ op ∧ op < 34)) :
    Calls Try.prog 56 #[.int .i64 op] w fun e w' => e = .returned (fV op) ∧ Below w.heap.size w w' := by
  have e1 : Hid (fV op = .agg #[.string ⟨#[]⟩, .int .i64 0, .int .i64 0, .int .i64 0]) := by
    show _ = _
    unfold fV fName fIs fReads fWrites; rw [if_neg h, if_neg h, if_neg h, if_neg h]
  have h : op < 0 ∨ 34 ≤ op := by omega
  rcases h with h | h
  all_goals
    go_enter Try.func56, Try.ntmps56
    go_wp2_with fail
    go_at_call 83
    refine (forms_any _).mono ?_
    rintro e w1 ⟨rfl, rfl⟩
    go_wp2_with (refine wpList_store_new (c' := formsCells) rfl rfl rfl rfl (by simp) rfl size_forms (by kernel_rfl) (by kernel_rfl) ?_)
    exact bodyPost_ret (v := .agg #[.string ⟨#[]⟩, .int .i64 0, .int .i64 0, .int .i64 0]) (by simp [results, Try.results56, go_sem]) rfl ⟨by rw [e1.out], ((((Below.refl _ _).alloc (Nat.le_refl _) _).alloc (by simp) _).alloc (by simp; omega) _)⟩
theorem of_any (op : Int) (w : World) :
    Calls Try.prog 56 #[.int .i64 op] w fun e w' => e = .returned (fV op) ∧ Below w.heap.size w w' := by
  by_cases h : 0 ≤ op ∧ op < 34
  · exact of_yes op w h
  · exact of_no op w h
end Go.Proofs.Ytbcaelhchmoigaa
namespace Go.Proofs.Ytbcaelhchmoigaa
open Go.RowKit Calm
theorem ret_bool {a b : Bool} (h : a = b) : Ending.returned (.bool a) = .returned (.bool b) := by rw [h]
theorem ret_int {k : IntKind} {a b : Int} (h : a = b) : Ending.returned (.int k a) = .returned (.int k b) := by rw [h]
theorem bcell {W w1 : World} (hb : Below W.heap.size W w1) : (∀ b o, b < W.heap.size → w1.cell? ⟨b, o, none⟩ = W.cell? ⟨b, o, none⟩) ∧ (∀ b o, b < W.heap.size → w1.frozen? ⟨b, o, none⟩ = W.frozen? ⟨b, o, none⟩) :=
  ⟨fun b o h => hb.cell (p := ⟨b, o, none⟩) h, fun b o h => hb.frozen (p := ⟨b, o, none⟩) h⟩
theorem bal {W w1 : World} (h : Below W.heap.size W w1) (o : Obj) : Below W.heap.size W (w1.alloc o) := h.alloc h.size o
def has (f k : Int) : Bool := bits .and .i64 f k != 0
theorem has_any (n : ByteArray) (a b c k : Int) (w : World) :
    Calls Try.prog 58 #[.agg #[.string n, .int .i64 a, .int .i64 b, .int .i64 c], .int .i64 k] w fun e w' => e = .returned (.bool (has a k)) ∧ w.alloc (.cells #[.string n, .int .i64 a, .int .i64 b, .int .i64 c] 97) = w' := by
  go_enter Try.func58, Try.ntmps58
  go_wp2
  go_ret
  exact ⟨rfl, rfl⟩
def reg (r : Int) : Bool := decide (0 ≤ r) && decide (r ≤ 15)
theorem register_any (r : Int) (w : World) :
    Calls Try.prog 59 #[.int .i64 r] w fun e w' => e = .returned (.bool (reg r)) ∧ w = w' := by
  by_cases h : 0 ≤ r
  · have h2 : Hid (decide (r ≤ 15) = reg r) := by show _ = _; simp [reg, h]
    go_enter Try.func59, Try.ntmps59
    go_wp2
    go_ret
    exact ⟨ret_bool (by first | exact h2.out | (rw [← h2.out]; simp)), rfl⟩
  · have h2 : Hid (false = reg r) := by show _ = _; simp [reg, h]
    have h3 : decide (0 ≤ r) = false := by simpa using h
    go_enter Try.func59, Try.ntmps59
    go_wp2
    go_ret
    exact ⟨ret_bool h2.out, rfl⟩
def smallB (n : Int) : Bool := decide (-2147483648 ≤ n) && decide (n ≤ 2147483647)
theorem small_any (n : Int) (w : World) (h : -9223372036854775808 ≤ n ∧ n ≤ 9223372036854775807) :
    Calls Try.prog 84 #[.int .i64 n] w fun e w' => e = .returned (.bool (smallB n)) ∧ w = w' := by
  have h2 : Hid ((n == wrap64 (wrap32 n)) = smallB n) := by
    show _ = _
    unfold wrap64 wrap32 smallB
    rw [Bool.eq_iff_iff]; simp; omega
  go_enter Try.func84, Try.ntmps84
  go_wp2
  go_ret
  exact ⟨ret_bool h2.out, rfl⟩
def numOk (f n : Int) : Bool := if has f 32 then true else if has f 16 then smallB n else if has f 64 then decide (1 ≤ n) && decide (n ≤ 63) else n == 0
theorem number_any (nm : ByteArray) (a b c n : Int) (w : World) (h : -9223372036854775808 ≤ n ∧ n ≤ 9223372036854775807) :
    Calls Try.prog 57 #[.agg #[.string nm, .int .i64 a, .int .i64 b, .int .i64 c], .int .i64 n] w fun e w' => e = .returned (.bool (numOk a n)) ∧ Below w.heap.size w w' := by
  have B1 : ∀ o, Below w.heap.size w (w.alloc o) := fun o => (Below.refl _ _).alloc (Nat.le_refl _) o
  by_cases h1 : has a 32 = true
  · have h2 : Hid (true = numOk a n) := by show _ = _; simp [numOk, h1]
    go_enter Try.func57, Try.ntmps57
    go_wp2_with (go_at_call 58; refine (has_any _ _ _ _ _ _).mono ?_; rintro e w' ⟨rfl, rfl⟩)
    go_ret
    exact ⟨ret_bool h2.out, bal (B1 _) _⟩
  · have h1 : has a 32 = false := by simpa using h1
    by_cases h3 : has a 16 = true
    · have h2 : Hid (smallB n = numOk a n) := by show _ = _; simp [numOk, h1, h3]
      go_enter Try.func57, Try.ntmps57
      go_wp2_with (first | (go_at_call 58; refine (has_any _ _ _ _ _ _).mono ?_; rintro e w' ⟨rfl, rfl⟩) | (go_at_call 84; refine (small_any _ _ h).mono ?_; rintro e w' ⟨rfl, rfl⟩))
      go_ret
      exact ⟨ret_bool h2.out, bal (bal (B1 _) _) _⟩
    · have h3 : has a 16 = false := by simpa using h3
      by_cases h4 : has a 64 = true
      · by_cases h5 : 1 ≤ n
        · have h2 : Hid (decide (n ≤ 63) = numOk a n) := by show _ = _; simp [numOk, h1, h3, h4, h5]
          go_enter Try.func57, Try.ntmps57
          go_wp2_with (go_at_call 58; refine (has_any _ _ _ _ _ _).mono ?_; rintro e w' ⟨rfl, rfl⟩)
          go_ret
          exact ⟨ret_bool (by first | exact h2.out | (rw [← h2.out]; simp)), bal (bal (bal (B1 _) _) _) _⟩
        · have h2 : Hid (false = numOk a n) := by show _ = _; simp [numOk, h1, h3, h4, h5]
          have h6 : decide (1 ≤ n) = false := by simpa using h5
          go_enter Try.func57, Try.ntmps57
          go_wp2_with (go_at_call 58; refine (has_any _ _ _ _ _ _).mono ?_; rintro e w' ⟨rfl, rfl⟩)
          go_ret
          exact ⟨ret_bool h2.out, bal (bal (bal (B1 _) _) _) _⟩
      · have h4 : has a 64 = false := by simpa using h4
        have h2 : Hid ((n == 0) = numOk a n) := by show _ = _; simp [numOk, h1, h3, h4]
        go_enter Try.func57, Try.ntmps57
        go_wp2_with (go_at_call 58; refine (has_any _ _ _ _ _ _).mono ?_; rintro e w' ⟨rfl, rfl⟩)
        go_ret
        exact ⟨ret_bool h2.out, bal (bal (bal (B1 _) _) _) _⟩
def SomeIdx (zs : List Int) (v : Int) (e : Ending) : Prop := ∃ r : Int, e = .returned (.int .i64 r) ∧ (decide (0 ≤ r) = decide (v ∈ zs))
theorem index_any (b off cap : Nat) (zs : List Int) (v : Int) (w : World) (hl : zs.length ≤ 1000) (hc : ∀ j, j < zs.length → w.cell? ⟨b, off + j, none⟩ = some (.int .i64 (zs.getD j 0))) :
    Calls Try.prog 98 #[.slice (some ⟨b, off, none⟩) zs.length cap, .int .i64 v] w fun e w' => SomeIdx zs v e ∧ w = w' := by
  go_enter Try.func98, Try.ntmps98
  go_wp2
  go_loop [8] (fun i => ∃ k : Nat, k ≤ zs.length ∧ i = .int .i64 k ∧ Hid (∀ j, j < k → zs.getD j 0 ≠ v)) (fun i => zs.length - (intOf i).toNat)
  case atStart => exact ⟨0, by omega, rfl, fun j h => absurd h (by omega)⟩
  case round =>
    obtain ⟨k, hk, rfl, hn⟩ := hrel
    by_cases hlt : k < zs.length
    · have hck := hc k hlt
      have hc' := hidd hc
      clear hc
      obtain ⟨x, hx⟩ : ∃ x, zs.getD k 0 = x := ⟨_, rfl⟩
      rw [hx] at hck
      have hx := hidd hx
      by_cases he : v = x
      · have he1 : (v == x) = true := by simpa using he
        have he2 : Hid (v ∈ zs) := by
          show v ∈ zs
          rw [he, ← hx.out, List.getD_eq_getElem?_getD, List.getElem?_eq_getElem hlt]; simp
        clear he
        go_wp2
        go_ret
        exact ⟨⟨k, rfl, by simp [he2.out]⟩, rfl⟩
      · have he1 : (v == x) = false := by simpa using he
        have hn2 : Hid (∀ j, j < k + 1 → zs.getD j 0 ≠ v) := by
          intro j hj
          by_cases hjk : j = k
          · subst hjk; exact fun h => he (by rw [← h, ← hx.out])
          · exact hn.out j (by omega)
        clear he
        go_wp2
        go_round
        case rel => exact ⟨k + 1, by omega, by go_num, hn2⟩
        case measure => simp [intOf]; omega
    · have hk2 : k = zs.length := by omega
      have hne : Hid (¬ v ∈ zs) := by
        intro h
        obtain ⟨j, hj, e⟩ := List.getElem_of_mem h
        exact hn.out j (by omega) (by rw [List.getD_eq_getElem?_getD, List.getElem?_eq_getElem hj]; simpa using e)
      clear hc
      go_wp2
      go_ret
      exact ⟨⟨-1, rfl, by simp [hne.out]⟩, rfl⟩
theorem contains_any (b off cap : Nat) (zs : List Int) (v : Int) (w : World) (hl : zs.length ≤ 1000) (hc : ∀ j, j < zs.length → w.cell? ⟨b, off + j, none⟩ = some (.int .i64 (zs.getD j 0))) :
    Calls Try.prog 85 #[.slice (some ⟨b, off, none⟩) zs.length cap, .int .i64 v] w fun e w' => e = .returned (.bool (decide (v ∈ zs))) ∧ w = w' := by
  have hc' := hidd hc
  clear hc
  go_enter Try.func85, Try.ntmps85
  go_wp2_with fail
  go_at_call 98
  refine (index_any b off cap zs v _ hl hc'.out).mono ?_
  rintro e w' ⟨⟨r, rfl, hr⟩, rfl⟩
  have hr' := hidd hr
  clear hr
  go_wp2
  go_ret
  exact ⟨ret_bool hr'.out, rfl⟩
end Go.Proofs.Ytbcaelhchmoigaa
namespace Go.Proofs.Ytbcaelhchmoigaa
open Go.RowKit Calm
def plc (mb mi ms md : Int) : Bool := reg mb && smallB md && (if mi = -1 then ms == 1 else reg mi && mi != 4 && decide (ms ∈ [1, 2, 4, 8]))
attribute [local irreducible] has reg numOk smallB fName fIs fReads fWrites plc
theorem place_any (mb mi ms md : Int) (w : World) (h : -9223372036854775808 ≤ md ∧ md ≤ 9223372036854775807) :
    Calls Try.prog 60 #[.agg #[.int .i64 mb, .int .i64 mi, .int .i64 ms, .int .i64 md]] w fun e w' => e = .returned (.bool (plc mb mi ms md)) ∧ Below w.heap.size w w' := by
  have B1 : ∀ o, Below w.heap.size w (w.alloc o) := fun o => (Below.refl _ _).alloc (Nat.le_refl _) o
  have hp : Hid (plc mb mi ms md = (reg mb && smallB md && (if mi = -1 then ms == 1 else reg mi && mi != 4 && decide (ms ∈ [1, 2, 4, 8])))) := by show _ = _; unfold plc; rfl
  by_cases h1 : reg mb = true
  · by_cases h2 : smallB md = true
    · by_cases h3 : mi = -1
      · subst h3
        have hq : Hid ((ms == 1) = plc mb (-1) ms md) := by show _ = _; rw [hp.out, h1, h2]; simp
        go_enter Try.func60, Try.ntmps60
        go_wp2_with (first | (go_at_call 59; refine (register_any _ _).mono ?_; rintro e w' ⟨rfl, rfl⟩) | (go_at_call 84; refine (small_any _ _ h).mono ?_; rintro e w' ⟨rfl, rfl⟩))
        go_ret
        exact ⟨ret_bool hq.out, B1 _⟩
      · have h3' : (mi == -1) = false := by simpa using h3
        by_cases h4 : reg mi = true
        · by_cases h5 : mi = 4
          · subst h5
            have h5' : ((4 : Int) != 4) = false := rfl
            have hq : Hid (false = plc mb 4 ms md) := by show _ = _; rw [hp.out, h1, h2, h4]; simp
            go_enter Try.func60, Try.ntmps60
            go_wp2_with (first | (go_at_call 59; refine (register_any _ _).mono ?_; rintro e w' ⟨rfl, rfl⟩) | (go_at_call 84; refine (small_any _ _ h).mono ?_; rintro e w' ⟨rfl, rfl⟩))
            go_ret
            exact ⟨ret_bool hq.out, B1 _⟩
          · have h5' : (mi != 4) = true := by simpa using h5
            have hq : Hid (decide (ms ∈ [1, 2, 4, 8]) = plc mb mi ms md) := by show _ = _; rw [hp.out, h1, h2, h4, if_neg h3, h5']; simp
            clear h3 h5
            go_enter Try.func60, Try.ntmps60
            go_wp2_with (first | (go_at_call 59; refine (register_any _ _).mono ?_; rintro e w' ⟨rfl, rfl⟩) | (go_at_call 84; refine (small_any _ _ h).mono ?_; rintro e w' ⟨rfl, rfl⟩))
            go_at_call 85
            refine (contains_any (w.heap.size + 1) 0 4 [1, 2, 4, 8] ms _ (by decide) ?_).mono ?_
            · intro j hj
              have hj' : j = 0 ∨ j = 1 ∨ j = 2 ∨ j = 3 := by simp at hj; omega
              rcases hj' with rfl | rfl | rfl | rfl <;> go_simp
            rintro e w' ⟨rfl, rfl⟩
            go_wp2
            go_ret
            exact ⟨ret_bool (by first | exact hq.out | (rw [← hq.out]; simp)), bal (B1 _) _⟩
        · have h4 : reg mi = false := by simpa using h4
          have hq : Hid (false = plc mb mi ms md) := by show _ = _; rw [hp.out, h1, h2, if_neg h3, h4]; simp
          clear h3
          go_enter Try.func60, Try.ntmps60
          go_wp2_with (first | (go_at_call 59; refine (register_any _ _).mono ?_; rintro e w' ⟨rfl, rfl⟩) | (go_at_call 84; refine (small_any _ _ h).mono ?_; rintro e w' ⟨rfl, rfl⟩))
          go_ret
          exact ⟨ret_bool hq.out, B1 _⟩
    · have h2 : smallB md = false := by simpa using h2
      have hq : Hid (false = plc mb mi ms md) := by show _ = _; rw [hp.out, h1, h2]; simp
      go_enter Try.func60, Try.ntmps60
      go_wp2_with (first | (go_at_call 59; refine (register_any _ _).mono ?_; rintro e w' ⟨rfl, rfl⟩) | (go_at_call 84; refine (small_any _ _ h).mono ?_; rintro e w' ⟨rfl, rfl⟩))
      go_ret
      exact ⟨ret_bool hq.out, B1 _⟩
  · have h1 : reg mb = false := by simpa using h1
    have hq : Hid (false = plc mb mi ms md) := by show _ = _; rw [hp.out, h1]; simp
    go_enter Try.func60, Try.ntmps60
    go_wp2_with (first | (go_at_call 59; refine (register_any _ _).mono ?_; rintro e w' ⟨rfl, rfl⟩) | (go_at_call 84; refine (small_any _ _ h).mono ?_; rintro e w' ⟨rfl, rfl⟩))
    go_ret
    exact ⟨ret_bool hq.out, B1 _⟩
def memZ (mb mi ms md : Int) : Bool := mb == 0 && mi == 0 && ms == 0 && md == 0
theorem mem_neq (mb mi ms md : Int) (w : World) : (binOp .neq 33 (.agg #[.int .i64 mb, .int .i64 mi, .int .i64 ms, .int .i64 md]) (.agg #[.int .i64 0, .int .i64 0, .int .i64 0, .int .i64 0])).run Try.prog w = .ok (.bool (!memZ mb mi ms md)) w := by
  unfold memZ
  by_cases h1 : mb = 0
  · by_cases h2 : mi = 0
    · by_cases h3 : ms = 0
      · by_cases h4 : md = 0
        · subst h1 h2 h3 h4; kernel_rfl
        · subst h1 h2 h3; have h4' : (md == 0) = false := by simpa using h4
          rw [h4']; go_simp
      · subst h1 h2; have h3' : (ms == 0) = false := by simpa using h3
        rw [h3']; go_simp
    · subst h1; have h2' : (mi == 0) = false := by simpa using h2
      rw [h2']; go_simp
  · have h1' : (mb == 0) = false := by simpa using h1
    rw [h1']; go_simp
def fld (f k x : Int) : Bool := if has f k then reg x else x == 0
def memOk (f mb mi ms md : Int) : Bool := if has f 8 then plc mb mi ms md else memZ mb mi ms md
def chk (op d s t mb mi ms md imm : Int) : Bool :=
  !(fName op).toList.isEmpty && numOk (fIs op) imm && fld (fIs op) 1 d && fld (fIs op) 2 s && fld (fIs op) 4 t && memOk (fIs op) mb mi ms md && !(has (fIs op) 4 && d == s)
def errOf (b : Bool) : Int := if b then 0 else 2
theorem bel_trans {W w1 w2 : World} (h : Below W.heap.size W w1) (k : Below w1.heap.size w1 w2) : Below W.heap.size W w2 := h.trans (k.mono h.size)
def FldPre (f d s t : Int) (k : Nat) : Prop := (0 < k → fld f 1 d = true) ∧ (1 < k → fld f 2 s = true) ∧ (2 < k → fld f 4 t = true)
theorem pre_0 (f d s t : Int) : FldPre f d s t 0 := ⟨by omega, by omega, by omega⟩
theorem pre_1 {f d s t : Int} (_h : FldPre f d s t 0) (h : fld f 1 d = true) : FldPre f d s t 1 := ⟨fun _ => h, by omega, by omega⟩
theorem pre_2 {f d s t : Int} (hp : FldPre f d s t 1) (h : fld f 2 s = true) : FldPre f d s t 2 := ⟨fun _ => hp.1 (by omega), fun _ => h, by omega⟩
theorem pre_3 {f d s t : Int} (hp : FldPre f d s t 2) (h : fld f 4 t = true) : FldPre f d s t 3 := ⟨fun _ => hp.1 (by omega), fun _ => hp.2.1 (by omega), fun _ => h⟩
theorem check_any (op d s t mb mi ms md imm : Int) (w : World) (hd : -9223372036854775808 ≤ md ∧ md ≤ 9223372036854775807) (hi : -9223372036854775808 ≤ imm ∧ imm ≤ 9223372036854775807) :
    Calls Try.prog 41 #[.agg #[.int .i64 op, .int .i64 d, .int .i64 s, .int .i64 t, .int .i64 mb, .int .i64 mi, .int .i64 ms, .int .i64 md, .int .i64 imm]] w
      fun e w' => e = .returned (.int .i64 (errOf (chk op d s t mb mi ms md imm))) ∧ Below w.heap.size w w' := by
  have hk : Hid (chk op d s t mb mi ms md imm = (!(fName op).toList.isEmpty && numOk (fIs op) imm && fld (fIs op) 1 d && fld (fIs op) 2 s && fld (fIs op) 4 t && memOk (fIs op) mb mi ms md && !(has (fIs op) 4 && d == s))) := by show _ = _; rfl
  go_enter Try.func41, Try.ntmps41
  go_wp2_with fail
  go_at_call 56
  refine (of_any op _).mono ?_
  rintro e w1 ⟨rfl, hb1⟩
  unfold fV
  obtain ⟨hc1, hf1⟩ := bcell hb1
  have hz1 : w.heap.size < w1.heap.size := by have := hb1.size; simp at this; omega
  cases hN : (fName op).toList.isEmpty with
  | true =>
    have hq : Hid (chk op d s t mb mi ms md imm = false) := by show _ = _; rw [hk.out, hN]; rfl
    have hB : Below w.heap.size w w1 := ((Below.refl _ _).alloc (Nat.le_refl _) _).trans (hb1.mono (by simp))
    go_wp2
    go_ret
    exact ⟨ret_int (by rw [hq.out]; rfl), bal hB _⟩
  | false =>
    go_wp2_with fail
    go_at_call 57
    refine (number_any _ _ _ _ _ _ hi).mono ?_
    rintro e w2 ⟨rfl, hb2⟩
    obtain ⟨hc2, hf2⟩ := bcell hb2
    have hz2 : w1.heap.size < w2.heap.size := by have := hb2.size; simp at this; omega
    have hz3 : w.heap.size < w2.heap.size := by omega
    have hB : Below w.heap.size w w2 := (((((Below.refl _ _).alloc (Nat.le_refl _) _).trans (hb1.mono (by simp))).alloc (by omega) _).trans (hb2.mono (by simp; omega)))
    cases hM : numOk (fIs op) imm with
    | false =>
      have hq : Hid (chk op d s t mb mi ms md imm = false) := by show _ = _; rw [hk.out, hN, hM]; rfl
      go_wp2
      go_ret
      exact ⟨ret_int (by rw [hq.out]; rfl), hB⟩
    | true =>
      have g0 : w2.cell? ⟨w.heap.size, 0, none⟩ = some (.int .i64 op) := by go_simp
      have g1 : w2.cell? ⟨w.heap.size, 1, none⟩ = some (.int .i64 d) := by go_simp
      have g2 : w2.cell? ⟨w.heap.size, 2, none⟩ = some (.int .i64 s) := by go_simp
      have g3 : w2.cell? ⟨w.heap.size, 3, none⟩ = some (.int .i64 t) := by go_simp
      have g4 : w2.cell? ⟨w.heap.size, 4, none⟩ = some (.int .i64 mb) := by go_simp
      have g5 : w2.cell? ⟨w.heap.size, 5, none⟩ = some (.int .i64 mi) := by go_simp
      have g6 : w2.cell? ⟨w.heap.size, 6, none⟩ = some (.int .i64 ms) := by go_simp
      have g7 : w2.cell? ⟨w.heap.size, 7, none⟩ = some (.int .i64 md) := by go_simp
      have k0 : w2.cell? ⟨w1.heap.size, 0, none⟩ = some (.string (fName op)) := by go_simp
      have k1 : w2.cell? ⟨w1.heap.size, 1, none⟩ = some (.int .i64 (fIs op)) := by go_simp
      have k2 : w2.cell? ⟨w1.heap.size, 2, none⟩ = some (.int .i64 (fReads op)) := by go_simp
      have k3 : w2.cell? ⟨w1.heap.size, 3, none⟩ = some (.int .i64 (fWrites op)) := by go_simp
      go_wp2
      clear hc1 hf1 hc2 hf2 hb1 hb2
      go_loopw [29] (fun i wr => ∃ (k : Nat) (z : Int), (k = 0 ∧ z = 0 ∨ k = 1 ∧ z = 1 ∨ k = 2 ∧ z = 2 ∨ k = 3 ∧ z = 3) ∧ i = .int .i64 z ∧ Below w2.heap.size w2 wr ∧ FldPre (fIs op) d s t k) (fun i _ => (3 - intOf i).toNat)
      case atStart => exact ⟨0, 0, .inl ⟨rfl, rfl⟩, rfl, Below.refl _ _, pre_0 _ _ _ _⟩
      case round =>
        obtain ⟨k, z, hkc, rfl, hbr, hf⟩ := hrel
        have hr1 : w.heap.size < wr.heap.size := by have := hbr.size; omega
        have hr2 : w1.heap.size < wr.heap.size := by have := hbr.size; omega
        replace g0 := cell_later hbr g0
        replace g1 := cell_later hbr g1
        replace g2 := cell_later hbr g2
        replace g3 := cell_later hbr g3
        replace g4 := cell_later hbr g4
        replace g5 := cell_later hbr g5
        replace g6 := cell_later hbr g6
        replace g7 := cell_later hbr g7
        replace k0 := cell_later hbr k0
        replace k1 := cell_later hbr k1
        replace k2 := cell_later hbr k2
        replace k3 := cell_later hbr k3
        rcases hkc with ⟨rfl, rfl⟩ | ⟨rfl, rfl⟩ | ⟨rfl, rfl⟩ | ⟨rfl, rfl⟩
        case inl =>
          have hix : ∀ w, (Instr.index 100 (.agg #[.int .i64 1, .int .i64 d, .int .i64 2, .int .i64 s, .int .i64 4, .int .i64 t]) (.int .i64 0)).run Try.prog w = .ok (.agg #[.int .i64 1, .int .i64 d]) w := fun _ => by kernel_rfl
          have hB2 : Below w.heap.size w wr := hB.trans (hbr.mono (by omega))
          by_cases hh : has (fIs op) 1 = true
          · by_cases hx : reg d = true
            · have hf' := pre_1 hf (show fld (fIs op) 1 d = true by simp [fld, hh, hx])
              go_wp2_with (first | (go_at_call 59; refine (register_any _ _).mono ?_; rintro e w' ⟨rfl, rfl⟩) | (go_at_call 58; refine (has_any _ _ _ _ _ _).mono ?_; rintro e w' ⟨rfl, rfl⟩))
              go_roundw
              case rel => exact ⟨1, _, .inr (.inl ⟨rfl, rfl⟩), rfl, (by repeat (first | exact hbr | refine bal ?_ _)), hf'⟩
              case measure => simp [intOf]
            · have hx : reg d = false := by simpa using hx
              have hq : Hid (chk op d s t mb mi ms md imm = false) := by show _ = _; rw [hk.out, show fld (fIs op) 1 d = false by simp [fld, hh, hx]]; simp
              go_wp2_with (first | (go_at_call 59; refine (register_any _ _).mono ?_; rintro e w' ⟨rfl, rfl⟩) | (go_at_call 58; refine (has_any _ _ _ _ _ _).mono ?_; rintro e w' ⟨rfl, rfl⟩))
              go_ret
              exact ⟨ret_int (by rw [hq.out]; rfl), bal (bal hB2 _) _⟩
          · have hh : has (fIs op) 1 = false := by simpa using hh
            by_cases hx : d = 0
            · have hx' : (d != 0) = false := by simpa using hx
              have hf' := pre_1 hf (show fld (fIs op) 1 d = true by simp [fld, hh, hx])
              clear hx
              go_wp2_with (first | (go_at_call 59; refine (register_any _ _).mono ?_; rintro e w' ⟨rfl, rfl⟩) | (go_at_call 58; refine (has_any _ _ _ _ _ _).mono ?_; rintro e w' ⟨rfl, rfl⟩))
              go_roundw
              case rel => exact ⟨1, _, .inr (.inl ⟨rfl, rfl⟩), rfl, (by repeat (first | exact hbr | refine bal ?_ _)), hf'⟩
              case measure => simp [intOf]
            · have hx' : (d != 0) = true := by simpa using hx
              have hq : Hid (chk op d s t mb mi ms md imm = false) := by show _ = _; rw [hk.out, show fld (fIs op) 1 d = false by simp [fld, hh, hx]]; simp
              clear hx
              go_wp2_with (first | (go_at_call 59; refine (register_any _ _).mono ?_; rintro e w' ⟨rfl, rfl⟩) | (go_at_call 58; refine (has_any _ _ _ _ _ _).mono ?_; rintro e w' ⟨rfl, rfl⟩))
              go_ret
              exact ⟨ret_int (by rw [hq.out]; rfl), bal (bal (bal hB2 _) _) _⟩
        case inr.inl =>
          have hix : ∀ w, (Instr.index 100 (.agg #[.int .i64 1, .int .i64 d, .int .i64 2, .int .i64 s, .int .i64 4, .int .i64 t]) (.int .i64 1)).run Try.prog w = .ok (.agg #[.int .i64 2, .int .i64 s]) w := fun _ => by kernel_rfl
          have hB2 : Below w.heap.size w wr := hB.trans (hbr.mono (by omega))
          by_cases hh : has (fIs op) 2 = true
          · by_cases hx : reg s = true
            · have hf' := pre_2 hf (show fld (fIs op) 2 s = true by simp [fld, hh, hx])
              go_wp2_with (first | (go_at_call 59; refine (register_any _ _).mono ?_; rintro e w' ⟨rfl, rfl⟩) | (go_at_call 58; refine (has_any _ _ _ _ _ _).mono ?_; rintro e w' ⟨rfl, rfl⟩))
              go_roundw
              case rel => exact ⟨2, _, .inr (.inr (.inl ⟨rfl, rfl⟩)), rfl, (by repeat (first | exact hbr | refine bal ?_ _)), hf'⟩
              case measure => simp [intOf]
            · have hx : reg s = false := by simpa using hx
              have hq : Hid (chk op d s t mb mi ms md imm = false) := by show _ = _; rw [hk.out, show fld (fIs op) 2 s = false by simp [fld, hh, hx]]; simp
              go_wp2_with (first | (go_at_call 59; refine (register_any _ _).mono ?_; rintro e w' ⟨rfl, rfl⟩) | (go_at_call 58; refine (has_any _ _ _ _ _ _).mono ?_; rintro e w' ⟨rfl, rfl⟩))
              go_ret
              exact ⟨ret_int (by rw [hq.out]; rfl), bal (bal hB2 _) _⟩
          · have hh : has (fIs op) 2 = false := by simpa using hh
            by_cases hx : s = 0
            · have hx' : (s != 0) = false := by simpa using hx
              have hf' := pre_2 hf (show fld (fIs op) 2 s = true by simp [fld, hh, hx])
              clear hx
              go_wp2_with (first | (go_at_call 59; refine (register_any _ _).mono ?_; rintro e w' ⟨rfl, rfl⟩) | (go_at_call 58; refine (has_any _ _ _ _ _ _).mono ?_; rintro e w' ⟨rfl, rfl⟩))
              go_roundw
              case rel => exact ⟨2, _, .inr (.inr (.inl ⟨rfl, rfl⟩)), rfl, (by repeat (first | exact hbr | refine bal ?_ _)), hf'⟩
              case measure => simp [intOf]
            · have hx' : (s != 0) = true := by simpa using hx
              have hq : Hid (chk op d s t mb mi ms md imm = false) := by show _ = _; rw [hk.out, show fld (fIs op) 2 s = false by simp [fld, hh, hx]]; simp
              clear hx
              go_wp2_with (first | (go_at_call 59; refine (register_any _ _).mono ?_; rintro e w' ⟨rfl, rfl⟩) | (go_at_call 58; refine (has_any _ _ _ _ _ _).mono ?_; rintro e w' ⟨rfl, rfl⟩))
              go_ret
              exact ⟨ret_int (by rw [hq.out]; rfl), bal (bal (bal hB2 _) _) _⟩
        case inr.inr.inl =>
          have hix : ∀ w, (Instr.index 100 (.agg #[.int .i64 1, .int .i64 d, .int .i64 2, .int .i64 s, .int .i64 4, .int .i64 t]) (.int .i64 2)).run Try.prog w = .ok (.agg #[.int .i64 4, .int .i64 t]) w := fun _ => by kernel_rfl
          have hB2 : Below w.heap.size w wr := hB.trans (hbr.mono (by omega))
          by_cases hh : has (fIs op) 4 = true
          · by_cases hx : reg t = true
            · have hf' := pre_3 hf (show fld (fIs op) 4 t = true by simp [fld, hh, hx])
              go_wp2_with (first | (go_at_call 59; refine (register_any _ _).mono ?_; rintro e w' ⟨rfl, rfl⟩) | (go_at_call 58; refine (has_any _ _ _ _ _ _).mono ?_; rintro e w' ⟨rfl, rfl⟩))
              go_roundw
              case rel => exact ⟨3, _, .inr (.inr (.inr ⟨rfl, rfl⟩)), rfl, (by repeat (first | exact hbr | refine bal ?_ _)), hf'⟩
              case measure => simp [intOf]
            · have hx : reg t = false := by simpa using hx
              have hq : Hid (chk op d s t mb mi ms md imm = false) := by show _ = _; rw [hk.out, show fld (fIs op) 4 t = false by simp [fld, hh, hx]]; simp
              go_wp2_with (first | (go_at_call 59; refine (register_any _ _).mono ?_; rintro e w' ⟨rfl, rfl⟩) | (go_at_call 58; refine (has_any _ _ _ _ _ _).mono ?_; rintro e w' ⟨rfl, rfl⟩))
              go_ret
              exact ⟨ret_int (by rw [hq.out]; rfl), bal (bal hB2 _) _⟩
          · have hh : has (fIs op) 4 = false := by simpa using hh
            by_cases hx : t = 0
            · have hx' : (t != 0) = false := by simpa using hx
              have hf' := pre_3 hf (show fld (fIs op) 4 t = true by simp [fld, hh, hx])
              clear hx
              go_wp2_with (first | (go_at_call 59; refine (register_any _ _).mono ?_; rintro e w' ⟨rfl, rfl⟩) | (go_at_call 58; refine (has_any _ _ _ _ _ _).mono ?_; rintro e w' ⟨rfl, rfl⟩))
              go_roundw
              case rel => exact ⟨3, _, .inr (.inr (.inr ⟨rfl, rfl⟩)), rfl, (by repeat (first | exact hbr | refine bal ?_ _)), hf'⟩
              case measure => simp [intOf]
            · have hx' : (t != 0) = true := by simpa using hx
              have hq : Hid (chk op d s t mb mi ms md imm = false) := by show _ = _; rw [hk.out, show fld (fIs op) 4 t = false by simp [fld, hh, hx]]; simp
              clear hx
              go_wp2_with (first | (go_at_call 59; refine (register_any _ _).mono ?_; rintro e w' ⟨rfl, rfl⟩) | (go_at_call 58; refine (has_any _ _ _ _ _ _).mono ?_; rintro e w' ⟨rfl, rfl⟩))
              go_ret
              exact ⟨ret_int (by rw [hq.out]; rfl), bal (bal (bal hB2 _) _) _⟩
        case inr.inr.inr =>
          have hB2 : Below w.heap.size w wr := hB.trans (hbr.mono (by omega))
          have hd1 := hf.1 (by omega)
          have hd2 := hf.2.1 (by omega)
          have hd3 := hf.2.2 (by omega)
          have hk' : Hid (chk op d s t mb mi ms md imm = (memOk (fIs op) mb mi ms md && !(has (fIs op) 4 && d == s))) := by show _ = _; rw [hk.out, hN, hM, hd1, hd2, hd3]; rfl
          clear hd1 hd2 hd3 hf
          have hr3 : w.heap.size < wr.heap.size + 1 + 1 := by omega
          have hr4 : w1.heap.size < wr.heap.size + 1 + 1 := by omega
          by_cases h8 : has (fIs op) 8 = true
          · cases hp : plc mb mi ms md with
            | false =>
              have hq : Hid (chk op d s t mb mi ms md imm = false) := by show _ = _; rw [hk'.out, show memOk (fIs op) mb mi ms md = false by simp [memOk, h8, hp]]; rfl
              go_wp2_with (first | (go_at_call 58; refine (has_any _ _ _ _ _ _).mono ?_; rintro e w' ⟨rfl, rfl⟩) | (go_at_call 60; refine (place_any _ _ _ _ _ hd).mono ?_; rintro e w' ⟨rfl, hbp⟩; obtain ⟨hcp, hfp⟩ := bcell hbp; have hzp := hbp.size; simp at hzp; have hzq : w.heap.size < w'.heap.size := (by omega); have hzr : w1.heap.size < w'.heap.size := (by omega)))
              go_ret
              exact ⟨ret_int (by rw [hq.out]; rfl), (by repeat (first | exact hB2 | refine bal ?_ _ | refine bel_trans ?_ hbp))⟩
            | true =>
              by_cases h4 : has (fIs op) 4 = true
              · by_cases hds : d = s
                · have hds' : (d == s) = true := by simpa using hds
                  have hq : Hid (chk op d s t mb mi ms md imm = false) := by show _ = _; rw [hk'.out, h4, hds']; simp
                  clear hds
                  go_wp2_with (first | (go_at_call 58; refine (has_any _ _ _ _ _ _).mono ?_; rintro e w' ⟨rfl, rfl⟩) | (go_at_call 60; refine (place_any _ _ _ _ _ hd).mono ?_; rintro e w' ⟨rfl, hbp⟩; obtain ⟨hcp, hfp⟩ := bcell hbp; have hzp := hbp.size; simp at hzp; have hzq : w.heap.size < w'.heap.size := (by omega); have hzr : w1.heap.size < w'.heap.size := (by omega)))
                  go_ret
                  exact ⟨ret_int (by rw [hq.out]; rfl), (by repeat (first | exact hB2 | refine bal ?_ _ | refine bel_trans ?_ hbp))⟩
                · have hds' : (d == s) = false := by simpa using hds
                  have hq : Hid (chk op d s t mb mi ms md imm = true) := by show _ = _; rw [hk'.out, show memOk (fIs op) mb mi ms md = true by simp [memOk, h8, hp], hds']; simp
                  clear hds
                  go_wp2_with (first | (go_at_call 58; refine (has_any _ _ _ _ _ _).mono ?_; rintro e w' ⟨rfl, rfl⟩) | (go_at_call 60; refine (place_any _ _ _ _ _ hd).mono ?_; rintro e w' ⟨rfl, hbp⟩; obtain ⟨hcp, hfp⟩ := bcell hbp; have hzp := hbp.size; simp at hzp; have hzq : w.heap.size < w'.heap.size := (by omega); have hzr : w1.heap.size < w'.heap.size := (by omega)))
                  go_ret
                  exact ⟨ret_int (by rw [hq.out]; rfl), (by repeat (first | exact hB2 | refine bal ?_ _ | refine bel_trans ?_ hbp))⟩
              · have h4 : has (fIs op) 4 = false := by simpa using h4
                have hq : Hid (chk op d s t mb mi ms md imm = true) := by show _ = _; rw [hk'.out, show memOk (fIs op) mb mi ms md = true by simp [memOk, h8, hp], h4]; simp
                go_wp2_with (first | (go_at_call 58; refine (has_any _ _ _ _ _ _).mono ?_; rintro e w' ⟨rfl, rfl⟩) | (go_at_call 60; refine (place_any _ _ _ _ _ hd).mono ?_; rintro e w' ⟨rfl, hbp⟩; obtain ⟨hcp, hfp⟩ := bcell hbp; have hzp := hbp.size; simp at hzp; have hzq : w.heap.size < w'.heap.size := (by omega); have hzr : w1.heap.size < w'.heap.size := (by omega)))
                go_ret
                exact ⟨ret_int (by rw [hq.out]; rfl), (by repeat (first | exact hB2 | refine bal ?_ _ | refine bel_trans ?_ hbp))⟩
          · have h8 : has (fIs op) 8 = false := by simpa using h8
            cases hp : memZ mb mi ms md with
            | false =>
              have hq : Hid (chk op d s t mb mi ms md imm = false) := by show _ = _; rw [hk'.out, show memOk (fIs op) mb mi ms md = false by simp [memOk, h8, hp]]; rfl
              have hmq : ∀ w, (binOp .neq 33 (.agg #[.int .i64 mb, .int .i64 mi, .int .i64 ms, .int .i64 md]) (.agg #[.int .i64 0, .int .i64 0, .int .i64 0, .int .i64 0])).run Try.prog w = .ok (.bool true) w := fun w => by rw [mem_neq, hp]; rfl
              go_wp2_with (first | (go_at_call 58; refine (has_any _ _ _ _ _ _).mono ?_; rintro e w' ⟨rfl, rfl⟩) | (go_at_call 60; refine (place_any _ _ _ _ _ hd).mono ?_; rintro e w' ⟨rfl, hbp⟩; obtain ⟨hcp, hfp⟩ := bcell hbp; have hzp := hbp.size; simp at hzp; have hzq : w.heap.size < w'.heap.size := (by omega); have hzr : w1.heap.size < w'.heap.size := (by omega)))
              go_ret
              exact ⟨ret_int (by rw [hq.out]; rfl), (by repeat (first | exact hB2 | refine bal ?_ _))⟩
            | true =>
              have hmq : ∀ w, (binOp .neq 33 (.agg #[.int .i64 mb, .int .i64 mi, .int .i64 ms, .int .i64 md]) (.agg #[.int .i64 0, .int .i64 0, .int .i64 0, .int .i64 0])).run Try.prog w = .ok (.bool false) w := fun w => by rw [mem_neq, hp]; rfl
              by_cases h4 : has (fIs op) 4 = true
              · by_cases hds : d = s
                · have hds' : (d == s) = true := by simpa using hds
                  have hq : Hid (chk op d s t mb mi ms md imm = false) := by show _ = _; rw [hk'.out, h4, hds']; simp
                  clear hds
                  go_wp2_with (first | (go_at_call 58; refine (has_any _ _ _ _ _ _).mono ?_; rintro e w' ⟨rfl, rfl⟩) | (go_at_call 60; refine (place_any _ _ _ _ _ hd).mono ?_; rintro e w' ⟨rfl, hbp⟩; obtain ⟨hcp, hfp⟩ := bcell hbp; have hzp := hbp.size; simp at hzp; have hzq : w.heap.size < w'.heap.size := (by omega); have hzr : w1.heap.size < w'.heap.size := (by omega)))
                  go_ret
                  exact ⟨ret_int (by rw [hq.out]; rfl), (by repeat (first | exact hB2 | refine bal ?_ _))⟩
                · have hds' : (d == s) = false := by simpa using hds
                  have hq : Hid (chk op d s t mb mi ms md imm = true) := by show _ = _; rw [hk'.out, show memOk (fIs op) mb mi ms md = true by simp [memOk, h8, hp], hds']; simp
                  clear hds
                  go_wp2_with (first | (go_at_call 58; refine (has_any _ _ _ _ _ _).mono ?_; rintro e w' ⟨rfl, rfl⟩) | (go_at_call 60; refine (place_any _ _ _ _ _ hd).mono ?_; rintro e w' ⟨rfl, hbp⟩; obtain ⟨hcp, hfp⟩ := bcell hbp; have hzp := hbp.size; simp at hzp; have hzq : w.heap.size < w'.heap.size := (by omega); have hzr : w1.heap.size < w'.heap.size := (by omega)))
                  go_ret
                  exact ⟨ret_int (by rw [hq.out]; rfl), (by repeat (first | exact hB2 | refine bal ?_ _))⟩
              · have h4 : has (fIs op) 4 = false := by simpa using h4
                have hq : Hid (chk op d s t mb mi ms md imm = true) := by show _ = _; rw [hk'.out, show memOk (fIs op) mb mi ms md = true by simp [memOk, h8, hp], h4]; simp
                go_wp2_with (first | (go_at_call 58; refine (has_any _ _ _ _ _ _).mono ?_; rintro e w' ⟨rfl, rfl⟩) | (go_at_call 60; refine (place_any _ _ _ _ _ hd).mono ?_; rintro e w' ⟨rfl, hbp⟩; obtain ⟨hcp, hfp⟩ := bcell hbp; have hzp := hbp.size; simp at hzp; have hzq : w.heap.size < w'.heap.size := (by omega); have hzr : w1.heap.size < w'.heap.size := (by omega)))
                go_ret
                exact ⟨ret_int (by rw [hq.out]; rfl), (by repeat (first | exact hB2 | refine bal ?_ _))⟩
end Go.Proofs.Ytbcaelhchmoigaa
namespace Go.Proofs.Ytbcaelhchmoigaa
open Go.RowKit Calm
theorem Try.infoU8 : (Try.prog.info? 5).map (fun i => (i.zero, i.size, i.bytes)) = some (some (.int .u8 0), 1, 1) := by kernel_rfl
def IsB (w : World) (B : Nat) (v : Value) (bs : List Int) : Prop := w.ownsRow B 5 1 v bs.length (bs.map (Value.int .u8))
def RetB (B : Nat) (bs : List Int) (e : Ending) (w : World) : Prop := ∃ v, e = .returned v ∧ IsB w B v bs
theorem IsB.nil (w : World) (B : Nat) : IsB w B (.slice none 0 0) [] := World.ownsRow_nil w B _ _
theorem IsB.mono {w : World} {B B' : Nat} {v : Value} {bs : List Int} (h : IsB w B v bs) (hB : B' ≤ B) : IsB w B' v bs := by
  obtain ⟨h1, h2⟩ := h
  refine ⟨h1, ?_⟩
  rcases h2 with h2 | ⟨g, cap, cur, a, b, c⟩
  · exact .inl h2
  · exact .inr ⟨g, cap, cur, a, by omega, c⟩
theorem IsB.alloc {w : World} {B : Nat} {v : Value} {bs : List Int} (h : IsB w B v bs) (o : Obj) : IsB (w.alloc o) B v bs := World.ownsRow.alloc h o
theorem IsB.later {w w' : World} {B : Nat} {v : Value} {bs : List Int} (h : IsB w B v bs) (hb : Below w.heap.size w w') : IsB w' B v bs := by
  obtain ⟨h1, h2⟩ := h
  refine ⟨h1, ?_⟩
  rcases h2 with h2 | ⟨g, cap, cur, a, b, c, d⟩
  · exact .inl h2
  · have hg : g < w.heap.size := by
      rcases Nat.lt_or_ge g w.heap.size with hlt | hge
      · exact hlt
      · rw [Array.getElem?_eq_none hge] at c; simp at c
    exact .inr ⟨g, cap, cur, a, b, by rw [hb.block g hg]; exact c, d⟩
theorem IsB.lit (w : World) (B : Nat) (bs : List Int) (n : Nat) (hn : n = bs.length) (cs : Array Value) (hcs : cs.toList = bs.map (Value.int .u8)) (hB : B ≤ w.heap.size) (hl : bs.length ≤ 1000) :
    IsB (w.alloc (.cells cs 5)) B (.slice (some ⟨w.heap.size, 0, none⟩) n n) bs := by
  subst hn
  have hsz : cs.size = bs.length := by rw [← Array.length_toList, hcs]; simp
  have h := World.ownsRow_lit (base := B) (e := 5) (size := 1) w cs bs.length hB (by unfold maxLen; omega) (by rw [hsz]; simp)
  unfold IsB
  rw [← hcs]
  exact h
theorem le_alloc {a : Nat} {w : World} (h : a ≤ w.heap.size) (o : Obj) : a ≤ (w.alloc o).heap.size := by simp; omega
theorem wpList_appB {ops : Array Oper} {rest : List Oper} {o : Oper} {a : Act} {w : World} {Q : Exit → Act → World → Prop} (hgd : o.guard = none) (s x : Operand)
    (ho : o.op = .call { callee := .builtin .append, args := #[s, x], argTypes := #[59, 59] })
    {B B' : Nat} {v y : Value} {xs bs : List Int} (hs : a.eval s = v) (hx : a.eval x = y) (h1 : IsB w B v xs) (h2 : IsB w B' y bs) (hB : B ≤ w.heap.size) (hl : xs.length + bs.length ≤ 1000)
    (h : ∀ v' w', IsB w' B v' (xs ++ bs) → Below B w w' → wpList Try.prog ops Q rest (a.put o.dst v') w') : wpList Try.prog ops Q (o :: rest) a w := by
  obtain ⟨i0, hi, hz0, hz1, hz2⟩ := info_parts Try.infoU8
  obtain ⟨hl2, hy⟩ := h2
  rcases hy with ⟨rfl, hn⟩ | ⟨g, cap, cur, rfl, hg, hh, hnc, hcm, hcs, htk⟩
  · have hb : bs = [] := by cases bs with | nil => rfl | cons _ _ => simp at hn
    subst hb
    refine wpList_append_own_none hgd s x 59 ho B 5 i0 1 Try.underlying59 hi v _ _ hs h1 hx ?_
    have := h v w (by rw [List.append_nil]; exact h1) (Below.refl _ _)
    exact this
  · refine wpList_append_own w hgd s x 59 ho B 5 i0 (.int .u8 0) 1 1 Try.underlying59 hi hz0 hz1 hz2 rfl (by decide) v xs.length _ hs h1 ⟨g, 0, none⟩ bs.length cap (bs.map (Value.int .u8)) hx (by simp) ?_ ?_ ?_ ?_ hB ?_
    · intro j u hu
      have e : (⟨g, 0, none⟩ : Addr).add j = ⟨g, j, none⟩ := by unfold Addr.add; split <;> simp_all
      rw [e]
      have hj : j < bs.length := by
        rcases Nat.lt_or_ge j bs.length with hlt | hge
        · exact hlt
        · rw [List.getElem?_eq_none (by simpa using hge)] at hu; simp at hu
      unfold World.cell?
      rw [hh]
      simp only [Option.isSome_none, Bool.false_eq_true, if_false]
      rw [← htk, List.getElem?_take, if_pos (by omega)] at hu
      rw [← Array.getElem?_toList]; exact hu
    · intro u hu
      obtain ⟨n, _, rfl⟩ := List.mem_map.1 hu
      rfl
    · unfold maxLen; omega
    · omega
    · intro v' w' hown hgr _
      refine h v' w' ?_ ?_
      · unfold IsB
        rw [List.length_append, List.map_append]; exact hown
      · refine (Below.refl B w).grown hgr hB ?_
        intro k hk
        exact (World.ownsRow.lt h1 k hk).1
theorem and7 (r : Int) (h : 0 ≤ r ∧ r ≤ 15) : bits BinOp.and IntKind.i64 r 7 % 256 = r % 8 := by
  have : r = 0 ∨ r = 1 ∨ r = 2 ∨ r = 3 ∨ r = 4 ∨ r = 5 ∨ r = 6 ∨ r = 7 ∨ r = 8 ∨ r = 9 ∨ r = 10 ∨ r = 11 ∨ r = 12 ∨ r = 13 ∨ r = 14 ∨ r = 15 := by omega
  rcases this with rfl | rfl | rfl | rfl | rfl | rfl | rfl | rfl | rfl | rfl | rfl | rfl | rfl | rfl | rfl | rfl <;> decide +kernel
def loR (r : Int) : Int := r % 8
def hiR (r : Int) : Int := if 8 ≤ r then 1 else 0
theorem loR_in (r : Int) : 0 ≤ loR r ∧ loR r ≤ 7 := by unfold loR; omega
theorem hiR_01 (r : Int) : hiR r = 0 ∨ hiR r = 1 := by unfold hiR; split <;> simp
theorem low_any (r : Int) (w : World) (h : 0 ≤ r ∧ r ≤ 15) :
    Calls Try.prog 88 #[.int .i64 r] w fun e w' => e = .returned (.int .u8 (loR r)) ∧ w = w' := by
  have hf := hidd (and7 r h)
  go_enter Try.func88, Try.ntmps88
  go_wp2
  go_ret
  exact ⟨ret_int hf.out, rfl⟩
theorem high_any (r : Int) (w : World) (h : -1 ≤ r ∧ r ≤ 15) :
    Calls Try.prog 91 #[.int .i64 r] w fun e w' => e = .returned (.int .u8 (hiR r)) ∧ w = w' := by
  have h1 : r < 0 ∨ (0 ≤ r ∧ r < 8) ∨ 8 ≤ r := by omega
  rcases h1 with h1 | h1 | h1
  · have hf : Hid (0 = hiR r) := by show _ = _; unfold hiR; rw [if_neg (by omega)]
    go_enter Try.func91, Try.ntmps91
    go_wp2
    go_ret
    exact ⟨ret_int hf.out, rfl⟩
  · have hf : Hid (r / 8 = hiR r) := by show _ = _; unfold hiR; rw [if_neg (by omega)]; omega
    go_enter Try.func91, Try.ntmps91
    go_wp2
    go_ret
    exact ⟨ret_int hf.out, rfl⟩
  · have hf : Hid (r / 8 = hiR r) := by show _ = _; unfold hiR; rw [if_pos (by omega)]; omega
    go_enter Try.func91, Try.ntmps91
    go_wp2
    go_ret
    exact ⟨ret_int hf.out, rfl⟩
attribute [local irreducible] loR hiR
def rexI (mid x last : Int) : Int := 72 + 4 * hiR mid + 2 * hiR x + hiR last
def bothI (mid last : Int) : Int := 192 + 8 * loR mid + loR last
theorem rex_form (a b c : Int) : bits BinOp.or IntKind.u8 (bits BinOp.or IntKind.u8 (bits BinOp.or IntKind.u8 72 (hiR a * 4 % 256)) (hiR b * 2 % 256)) (hiR c) = rexI a b c := by
  unfold rexI
  rcases hiR_01 a with h1 | h1 <;> rcases hiR_01 b with h2 | h2 <;> rcases hiR_01 c with h3 | h3 <;> rw [h1, h2, h3] <;> decide +kernel
theorem both_all : ∀ a ∈ List.range 8, ∀ b ∈ List.range 8, bits BinOp.or IntKind.u8 (bits BinOp.or IntKind.u8 192 ((a : Int) * 8 % 256)) (b : Int) = 192 + 8 * (a : Int) + (b : Int) := by decide +kernel
theorem both_form (a b : Int) : bits BinOp.or IntKind.u8 (bits BinOp.or IntKind.u8 192 (loR a * 8 % 256)) (loR b) = bothI a b := by
  unfold bothI
  have ha := loR_in a
  have hb := loR_in b
  have h := both_all (loR a).toNat (by rw [List.mem_range]; omega) (loR b).toNat (by rw [List.mem_range]; omega)
  rw [show (((loR a).toNat : Nat) : Int) = loR a by omega, show (((loR b).toNat : Nat) : Int) = loR b by omega] at h
  exact h
theorem rex_any (mid x last : Int) (w : World) (h1 : -1 ≤ mid ∧ mid ≤ 15) (h2 : -1 ≤ x ∧ x ≤ 15) (h3 : -1 ≤ last ∧ last ≤ 15) :
    Calls Try.prog 86 #[.int .i64 mid, .int .i64 x, .int .i64 last] w fun e w' => e = .returned (.int .u8 (rexI mid x last)) ∧ w = w' := by
  go_enter Try.func86, Try.ntmps86
  go_wp2_with (go_at_call 91; refine (high_any _ _ (by assumption)).mono ?_; rintro e w' ⟨rfl, rfl⟩)
  go_ret
  exact ⟨ret_int (rex_form mid x last), rfl⟩
theorem both_any (mid last : Int) (w : World) (h1 : 0 ≤ mid ∧ mid ≤ 15) (h3 : 0 ≤ last ∧ last ≤ 15) :
    Calls Try.prog 87 #[.int .i64 mid, .int .i64 last] w fun e w' => e = .returned (.int .u8 (bothI mid last)) ∧ w = w' := by
  go_enter Try.func87, Try.ntmps87
  go_wp2_with (go_at_call 88; refine (low_any _ _ (by assumption)).mono ?_; rintro e w' ⟨rfl, rfl⟩)
  go_ret
  exact ⟨ret_int (both_form mid last), rfl⟩
def littleL (n : Int) : Nat → List Int
  | 0 => []
  | k + 1 => (n % 256) :: littleL (n / 256) k
theorem littleL_length (n : Int) (k : Nat) : (littleL n k).length = k := by induction k generalizing n with | zero => rfl | succ k ih => simp [littleL, ih]
def HasB (w : World) (B : Nat) (v : Value) (acc : List Int) (n m : Int) (k j : Nat) : Prop := IsB w B v acc ∧ acc ++ littleL m (k - j) = littleL n k ∧ acc.length = j
theorem little_any (n : Int) (k : Nat) (w : World) (hk : k ≤ 8) (hn : -9223372036854775808 ≤ n ∧ n ≤ 9223372036854775807) :
    Calls Try.prog 89 #[.int .i64 n, .int .i64 k] w fun e w' => RetB w.heap.size (littleL n k) e w' ∧ Below w.heap.size w w' := by
  go_enter Try.func89, Try.ntmps89
  go_wp2
  go_loopw [0, 4, 6] (fun x v i wr => ∃ (j : Nat) (m : Int) (acc : List Int), j ≤ k ∧ i = .int .i64 j ∧ x = .int .i64 m ∧ (-9223372036854775808 ≤ m ∧ m ≤ 9223372036854775807) ∧ HasB wr w.heap.size v acc n m k j ∧ Below w.heap.size w wr) (fun _ _ i _ => k - (intOf i).toNat)
  case atStart => exact ⟨0, n, [], by omega, rfl, rfl, hn, ⟨IsB.nil _ _, by simp, rfl⟩, Below.refl _ _⟩
  case round =>
    obtain ⟨j, m, acc, hj, rfl, rfl, hm, hh, hb⟩ := hrel
    by_cases hlt : j < k
    · obtain ⟨hB, ha, hl⟩ := hh
      have ha' := hidd ha
      have hl' := hidd hl
      clear ha hl
      have hsz := hb.size
      have hacc : acc.length + 1 ≤ 1000 := by have := hl'.out; omega
      go_wp2_with (at_builtin; refine wpList_appB (xs := acc) (bs := [m % 256]) (B := w.heap.size) (B' := 0) rfl _ _ rfl rfl rfl (IsB.alloc hB _) (IsB.lit wr 0 [m % 256] 1 rfl _ rfl (Nat.zero_le _) (by simp)) (le_alloc hsz _) hacc ?_; intro v' w' hB' hb'; clear hB)
      go_roundw
      case rel => exact ⟨j + 1, m / 256, acc ++ [m % 256], by omega, by go_num, rfl, by omega, ⟨hB', by have := ha'.out; rw [← this, show k - j = (k - (j + 1)) + 1 by omega, littleL]; simp, by have := hl'.out; simp; omega⟩, (bal hb _).trans hb'⟩
      case measure => simp [intOf]; omega
    · obtain ⟨hB, ha, hl⟩ := hh
      have e : j = k := by omega
      subst e
      have hf : Hid (acc = littleL n j) := by show _ = _; rw [← ha]; simp [littleL]
      clear ha hl
      go_wp2
      go_ret
      exact ⟨⟨_, rfl, by rw [← hf.out]; exact hB⟩, hb⟩
end Go.Proofs.Ytbcaelhchmoigaa
namespace Go.Proofs.Ytbcaelhchmoigaa.MapRun
open Go
def mrun {α : Type} (P : Program) : Sem α → Array MapEntry → Nat → List Nat → Option (α × Array MapEntry × Nat × List Nat)
  | .pure a, es, c, l => some (a, es, c, l)
  | .program k, es, c, l => mrun P (k P) es c l
  | .mark _ k, es, c, l => mrun P k es c l
  | .getObj r k, es, c, l => mrun P (k (.map es c)) es c (r :: l)
  | .setObj r (.map es' c') k, _, _, l => mrun P k es' c' (r :: l)
  | _, _, _, _ => none
theorem mrun_asks {α : Type} {P : Program} : ∀ (s : Sem α) {es : Array MapEntry} {c : Nat} {l : List Nat} {x : α × Array MapEntry × Nat × List Nat}, mrun P s es c l = some x → ∀ y ∈ l, y ∈ x.2.2.2
  | .pure a, es, c, l, x, h, y, hy => by simp only [mrun, Option.some.injEq] at h; subst h; exact hy
  | .program k, es, c, l, x, h, y, hy => mrun_asks (k P) h y hy
  | .mark _ k, es, c, l, x, h, y, hy => mrun_asks k h y hy
  | .getObj r k, es, c, l, x, h, y, hy => mrun_asks (k (.map es c)) h y (List.mem_cons_of_mem _ hy)
  | .setObj r (.map es' c') k, es, c, l, x, h, y, hy => mrun_asks k (es := es') (c := c') (l := r :: l) (by simpa [mrun] using h) y (List.mem_cons_of_mem _ hy)
  | .setObj _ (.cells ..) _, _, _, _, _, h, _, _ => by simp [mrun] at h
  | .setObj _ (.pending ..) _, _, _, _, _, h, _, _ => by simp [mrun] at h
  | .setObj _ (.view ..) _, _, _, _, _, h, _, _ => by simp [mrun] at h
  | .setObj _ (.number ..) _, _, _, _, _, h, _, _ => by simp [mrun] at h
  | .setObj _ (.chan ..) _, _, _, _, _, h, _, _ => by simp [mrun] at h
  | .setObj _ (.stringIter ..) _, _, _, _, _, h, _, _ => by simp [mrun] at h
  | .setObj _ (.mapIter ..) _, _, _, _, _, h, _, _ => by simp [mrun] at h
  | .setObj _ (.loop ..) _, _, _, _, _, h, _, _ => by simp [mrun] at h
  | .setObj _ (.deferred ..) _, _, _, _, _, h, _, _ => by simp [mrun] at h
  | .setObj _ (.coro ..) _, _, _, _, _, h, _, _ => by simp [mrun] at h
  | .setObj _ (.finalizers ..) _, _, _, _, _, h, _, _ => by simp [mrun] at h
  | .load .., _, _, _, _, h, _, _ => by simp [mrun] at h
  | .store .., _, _, _, _, h, _, _ => by simp [mrun] at h
  | .new .., _, _, _, _, h, _, _ => by simp [mrun] at h
  | .shape .., _, _, _, _, h, _, _ => by simp [mrun] at h
  | .freeze .., _, _, _, _, h, _, _ => by simp [mrun] at h
  | .frozen .., _, _, _, _, h, _, _ => by simp [mrun] at h
  | .choose .., _, _, _, _, h, _, _ => by simp [mrun] at h
  | .sys .., _, _, _, _, h, _, _ => by simp [mrun] at h
  | .halt _, _, _, _, _, h, _, _ => by simp [mrun] at h
theorem heap_last (w : World) (o : Obj) : (w.alloc o).heap[w.heap.size]? = some o := by show (w.heap.push o)[w.heap.size]? = _; simp
theorem set_last (w : World) (o o' : Obj) : { w.alloc o with heap := (w.alloc o).heap.setIfInBounds w.heap.size o' } = w.alloc o' := by
  show ({ w with heap := (w.heap.push o).setIfInBounds w.heap.size o' } : World) = { w with heap := w.heap.push o' }
  congr 1
  apply Array.ext_getElem?
  intro i
  rw [Array.getElem?_setIfInBounds]
  by_cases h : w.heap.size = i
  · subst h; simp
  · have h' : ¬ i = w.heap.size := fun e => h e.symm
    simp [h, h', Array.getElem?_push]
theorem run_mrun {α : Type} {P : Program} (w : World) : ∀ (s : Sem α) {es : Array MapEntry} {c : Nat} {l : List Nat} {x : α × Array MapEntry × Nat × List Nat}, mrun P s es c l = some x →
    (∀ y ∈ x.2.2.2, y = w.heap.size) → s.run P (w.alloc (.map es c)) = .ok x.1 (w.alloc (.map x.2.1 x.2.2.1))
  | .pure a, es, c, l, x, h, _ => by simp only [mrun, Option.some.injEq] at h; subst h; rfl
  | .program k, es, c, l, x, h, hy => run_mrun w (k P) h hy
  | .mark _ k, es, c, l, x, h, hy => run_mrun w k h hy
  | .getObj r k, es, c, l, x, h, hy => by
    have h' : mrun P (k (.map es c)) es c (r :: l) = some x := h
    have hr : r = w.heap.size := hy r (mrun_asks _ h' r List.mem_cons_self)
    subst hr
    have := run_mrun w (k (.map es c)) h' hy
    rw [Sem.run, heap_last]; exact this
  | .setObj r (.map es' c') k, es, c, l, x, h, hy => by
    have h' : mrun P k es' c' (r :: l) = some x := by simpa [mrun] using h
    have hr : r = w.heap.size := hy r (mrun_asks _ h' r List.mem_cons_self)
    subst hr
    have := run_mrun w k h' hy
    rw [Sem.run, heap_last]
    show Sem.run P k { w.alloc (.map es c) with heap := (w.alloc (.map es c)).heap.setIfInBounds w.heap.size (.map es' c') } = _
    rw [set_last]; exact this
  | .setObj _ (.cells ..) _, _, _, _, _, h, _ => by simp [mrun] at h
  | .setObj _ (.pending ..) _, _, _, _, _, h, _ => by simp [mrun] at h
  | .setObj _ (.view ..) _, _, _, _, _, h, _ => by simp [mrun] at h
  | .setObj _ (.number ..) _, _, _, _, _, h, _ => by simp [mrun] at h
  | .setObj _ (.chan ..) _, _, _, _, _, h, _ => by simp [mrun] at h
  | .setObj _ (.stringIter ..) _, _, _, _, _, h, _ => by simp [mrun] at h
  | .setObj _ (.mapIter ..) _, _, _, _, _, h, _ => by simp [mrun] at h
  | .setObj _ (.loop ..) _, _, _, _, _, h, _ => by simp [mrun] at h
  | .setObj _ (.deferred ..) _, _, _, _, _, h, _ => by simp [mrun] at h
  | .setObj _ (.coro ..) _, _, _, _, _, h, _ => by simp [mrun] at h
  | .setObj _ (.finalizers ..) _, _, _, _, _, h, _ => by simp [mrun] at h
  | .load .., _, _, _, _, h, _ => by simp [mrun] at h
  | .store .., _, _, _, _, h, _ => by simp [mrun] at h
  | .new .., _, _, _, _, h, _ => by simp [mrun] at h
  | .shape .., _, _, _, _, h, _ => by simp [mrun] at h
  | .freeze .., _, _, _, _, h, _ => by simp [mrun] at h
  | .frozen .., _, _, _, _, h, _ => by simp [mrun] at h
  | .choose .., _, _, _, _, h, _ => by simp [mrun] at h
  | .sys .., _, _, _, _, h, _ => by simp [mrun] at h
  | .halt _, _, _, _, _, h, _ => by simp [mrun] at h
def mops (P : Program) : List Oper → Act → Array MapEntry → Nat → List Nat → Option (Act × Array MapEntry × Nat × List Nat)
  | [], a, es, c, l => some (a, es, c, l)
  | o :: rest, a, es, c, l =>
    match o.guard with
    | some _ => none
    | none =>
      match mrun P (execOp a.eval o) es c l with
      | some (.value v, es', c', l') => mops P rest (a.put o.dst v) es' c' l'
      | some (.skip, es', c', l') => mops P rest (a.put o.dst undef) es' c' l'
      | _ => none
theorem mops_asks {P : Program} : ∀ (ops : List Oper) {a : Act} {es : Array MapEntry} {c : Nat} {l : List Nat} {x : Act × Array MapEntry × Nat × List Nat}, mops P ops a es c l = some x → ∀ y ∈ l, y ∈ x.2.2.2
  | [], a, es, c, l, x, h, y, hy => by simp only [mops, Option.some.injEq] at h; subst h; exact hy
  | o :: rest, a, es, c, l, x, h, y, hy => by
    unfold mops at h
    split at h
    · exact absurd h (by simp)
    · split at h
      · rename_i he
        exact mops_asks rest h y (mrun_asks _ he y hy)
      · rename_i he
        exact mops_asks rest h y (mrun_asks _ he y hy)
      · exact absurd h (by simp)
theorem wpList_mops {P : Program} {ops : Array Oper} {Q : Exit → Act → World → Prop} {rest : List Oper} {w : World} : ∀ (l : List Oper) {a : Act} {es : Array MapEntry} {c : Nat} {zs : List Nat} {x : Act × Array MapEntry × Nat × List Nat},
    mops P l a es c zs = some x → (∀ y ∈ x.2.2.2, y = w.heap.size) → wpList P ops Q rest x.1 (w.alloc (.map x.2.1 x.2.2.1)) → wpList P ops Q (l ++ rest) a (w.alloc (.map es c))
  | [], a, es, c, zs, x, h, _, hk => by simp only [mops, Option.some.injEq] at h; subst h; exact hk
  | o :: l, a, es, c, zs, x, h, hy, hk => by
    unfold mops at h
    split at h
    · exact absurd h (by simp)
    · rename_i hg
      split at h
      · rename_i v es' c' l' he
        have hr := run_mrun w _ he (fun y hy' => hy y (mops_asks l h y hy'))
        refine wpList_plain hg (fun K hK => ?_)
        unfold Oper.wp
        rw [hr]
        exact hK _ _ (wpList_mops l h hy hk)
      · rename_i es' c' l' he
        have hr := run_mrun w _ he (fun y hy' => hy y (mops_asks l h y hy'))
        refine wpList_plain hg (fun K hK => ?_)
        unfold Oper.wp
        rw [hr]
        exact hK _ _ (wpList_mops l h hy hk)
      · exact absurd h (by simp)
theorem wpList_mops_all {P : Program} {ops : Array Oper} {Q : Exit → Act → World → Prop} {w : World} {l : List Oper} {a : Act} {es : Array MapEntry} {c : Nat} (n : Nat) (x : Operand) (v : Value) (es' : Array MapEntry) (c' : Nat)
    (h1 : (mops P l a es c []).map (fun y => y.2.2.2) = some (List.replicate n w.heap.size)) (h2 : (mops P l a es c []).map (fun y => y.2.1) = some es') (h3 : (mops P l a es c []).map (fun y => y.2.2.1) = some c')
    (h4 : (mops P l a es c []).map (fun y => y.1.eval x) = some v) (h5 : (mops P l a es c []).map (fun y => y.1.defers) = some [])
    (hk : ∀ a' : Act, a'.eval x = v → a'.defers = [] → Q .normal a' (w.alloc (.map es' c'))) : wpList P ops Q l a (w.alloc (.map es c)) := by
  cases e : mops P l a es c [] with
  | none => rw [e] at h1; simp at h1
  | some y =>
    rw [e] at h1 h2 h3 h4 h5
    simp only [Option.map_some, Option.some.injEq] at h1 h2 h3 h4 h5
    have := wpList_mops (P := P) (ops := ops) (Q := Q) (rest := []) (w := w) l e (fun z hz => by rw [h1] at hz; exact List.eq_of_mem_replicate hz) (by rw [h2, h3]; exact hk _ h4 h5)
    rwa [List.append_nil] at this
end Go.Proofs.Ytbcaelhchmoigaa.MapRun
namespace Go.Proofs.Ytbcaelhchmoigaa
open Go.RowKit Calm MapRun
def fnV (f : Nat) : Value := .func (.func f) #[] #[]
def waysE : Array MapEntry := #[
  ⟨.int .i64 1, .agg #[.int .u8 137, .int .u8 0, fnV 61], 0⟩,
  ⟨.int .i64 6, .agg #[.int .u8 1, .int .u8 0, fnV 61], 1⟩,
  ⟨.int .i64 7, .agg #[.int .u8 17, .int .u8 0, fnV 61], 2⟩,
  ⟨.int .i64 8, .agg #[.int .u8 41, .int .u8 0, fnV 61], 3⟩,
  ⟨.int .i64 9, .agg #[.int .u8 25, .int .u8 0, fnV 61], 4⟩,
  ⟨.int .i64 10, .agg #[.int .u8 33, .int .u8 0, fnV 61], 5⟩,
  ⟨.int .i64 11, .agg #[.int .u8 9, .int .u8 0, fnV 61], 6⟩,
  ⟨.int .i64 12, .agg #[.int .u8 49, .int .u8 0, fnV 61], 7⟩,
  ⟨.int .i64 13, .agg #[.int .u8 57, .int .u8 0, fnV 61], 8⟩,
  ⟨.int .i64 14, .agg #[.int .u8 133, .int .u8 0, fnV 61], 9⟩,
  ⟨.int .i64 2, .agg #[.int .u8 184, .int .u8 0, fnV 62], 10⟩,
  ⟨.int .i64 3, .agg #[.int .u8 139, .int .u8 0, fnV 63], 11⟩,
  ⟨.int .i64 4, .agg #[.int .u8 137, .int .u8 0, fnV 64], 12⟩,
  ⟨.int .i64 5, .agg #[.int .u8 141, .int .u8 0, fnV 63], 13⟩,
  ⟨.int .i64 15, .agg #[.int .u8 129, .int .u8 0, fnV 65], 14⟩,
  ⟨.int .i64 16, .agg #[.int .u8 129, .int .u8 4, fnV 65], 15⟩,
  ⟨.int .i64 17, .agg #[.int .u8 129, .int .u8 5, fnV 65], 16⟩,
  ⟨.int .i64 18, .agg #[.int .u8 129, .int .u8 7, fnV 65], 17⟩,
  ⟨.int .i64 19, .agg #[.int .u8 196, .int .u8 246, fnV 66], 18⟩,
  ⟨.int .i64 20, .agg #[.int .u8 102, .int .u8 246, fnV 67], 19⟩,
  ⟨.int .i64 21, .agg #[.int .u8 243, .int .u8 246, fnV 67], 20⟩,
  ⟨.int .i64 22, .agg #[.int .u8 247, .int .u8 3, fnV 68], 21⟩,
  ⟨.int .i64 23, .agg #[.int .u8 247, .int .u8 2, fnV 68], 22⟩,
  ⟨.int .i64 24, .agg #[.int .u8 193, .int .u8 4, fnV 69], 23⟩,
  ⟨.int .i64 25, .agg #[.int .u8 193, .int .u8 5, fnV 69], 24⟩,
  ⟨.int .i64 26, .agg #[.int .u8 15, .int .u8 66, fnV 70], 25⟩,
  ⟨.int .i64 27, .agg #[.int .u8 15, .int .u8 69, fnV 70], 26⟩,
  ⟨.int .i64 28, .agg #[.int .u8 80, .int .u8 0, fnV 71], 27⟩,
  ⟨.int .i64 29, .agg #[.int .u8 88, .int .u8 0, fnV 71], 28⟩,
  ⟨.int .i64 30, .agg #[.int .u8 233, .int .u8 0, fnV 72], 29⟩,
  ⟨.int .i64 31, .agg #[.int .u8 15, .int .u8 133, fnV 72], 30⟩,
  ⟨.int .i64 32, .agg #[.int .u8 15, .int .u8 130, fnV 72], 31⟩,
  ⟨.int .i64 33, .agg #[.int .u8 195, .int .u8 0, fnV 73], 32⟩]
def scalesE : Array MapEntry := #[⟨.int .i64 1, .int .u8 0, 0⟩, ⟨.int .i64 2, .int .u8 1, 1⟩, ⟨.int .i64 4, .int .u8 2, 2⟩, ⟨.int .i64 8, .int .u8 3, 3⟩]
theorem scales_any (w : World) :
    Calls Try.prog 99 #[] w fun e w' => e = .returned (.map (some w.heap.size)) ∧ w.alloc (.map scalesE 4) = w' := by
  have hmm := @run_makeMap Try.prog
  go_enter Try.func99, Try.ntmps99
  go_wp2_with (refine wpList_mops_all 8 (.tmp 0) (.map (some w.heap.size)) scalesE 4 (by kernel_rfl) (by kernel_rfl) (by kernel_rfl) (by kernel_rfl) (by kernel_rfl) ?_)
  intro a' h1 h2
  go_wp2
  exact bodyPost_ret (results_tmp rfl _ _ _) h2 ⟨by have := h1; simp only [Act.eval] at this; rw [← this], rfl⟩
theorem ways_any (w : World) :
    Calls Try.prog 43 #[] w fun e w' => e = .returned (.map (some w.heap.size)) ∧ w.alloc (.map waysE 33) = w' := by
  have hmm := @run_makeMap Try.prog
  go_enter Try.func43, Try.ntmps43
  simp only [List.append_eq, List.cons_append, List.nil_append]
  go_wp2_with (refine wpList_mops_all 66 (.tmp 0) (.map (some w.heap.size)) waysE 33 (by kernel_rfl) (by kernel_rfl) (by kernel_rfl) (by kernel_rfl) (by kernel_rfl) ?_)
  intro a' h1 h2
  go_wp2
  exact bodyPost_ret (results_tmp rfl _ _ _) h2 ⟨by have := h1; simp only [Act.eval] at this; rw [← this], rfl⟩
theorem run_look {P : Program} (w : World) {s : Sem Value} {es : Array MapEntry} {c : Nat} {v : Value} (r : Nat) (hr : r = w.heap.size) (h1 : (mrun P s es c []).map (fun y => (y.2.2.2)) = some [r]) (h2 : (mrun P s es c []).map (fun y => y.1) = some v)
    (h3 : (mrun P s es c []).map (fun y => y.2.1) = some es) (h4 : (mrun P s es c []).map (fun y => y.2.2.1) = some c) : s.run P (w.alloc (.map es c)) = .ok v (w.alloc (.map es c)) := by
  cases e : mrun P s es c [] with
  | none => rw [e] at h1; simp at h1
  | some y =>
    rw [e] at h1 h2 h3 h4
    simp only [Option.map_some, Option.some.injEq] at h1 h2 h3 h4
    have := run_mrun w s e (fun z hz => by rw [h1] at hz; simp at hz; omega)
    rw [this, h2, h3, h4]
def scaleI (s : Int) : Int := if s = 2 then 1 else if s = 4 then 2 else if s = 8 then 3 else 0
theorem look_scale (w : World) (r : Nat) (hr : r = w.heap.size) (s : Int) (h : s = 1 ∨ s = 2 ∨ s = 4 ∨ s = 8) :
    (Instr.lookup 121 (.map (some r)) (.int .i64 s) false).run Try.prog (w.alloc (.map scalesE 4)) = .ok (.int .u8 (scaleI s)) (w.alloc (.map scalesE 4)) := by
  rcases h with rfl | rfl | rfl | rfl <;> exact run_look w r hr (by kernel_rfl) (by kernel_rfl) (by kernel_rfl) (by kernel_rfl)
end Go.Proofs.Ytbcaelhchmoigaa
