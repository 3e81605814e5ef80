import Derived.Test.YtbcaelhchmoigaaMC
import Derived.Test.YtbcaelhchmoigaaMA
import Derived.Laws.BytesString
import Derived.Laws.EntriesVeiled
import Derived.Shelf.Abstract
set_option maxHeartbeats 4000000
set_option maxRecDepth 100000
set_option linter.unusedVariables false
set_option linter.unusedSimpArgs false
namespace Go.Proofs.Ytbcaelhchmoigaa
open Go.RowKit Calm MapRun
def strB (bs : List Int) : ByteArray := bs.foldl (fun r n => r.push (UInt8.ofNat n.toNat)) ByteArray.empty
theorem conv_str {w : World} {B : Nat} {v : Value} {bs : List Int} (h : IsB w B v bs) : (convert 59 9 v).run Try.prog w = .ok (.string (strB bs)) w := by
  obtain ⟨hl, hv⟩ := h
  rcases hv with ⟨rfl, hn⟩ | ⟨g, cap, cur, rfl, hg, hh, hnc, hcm, hcs, htk⟩
  · have hb : bs = [] := by cases bs with | nil => rfl | cons _ _ => simp at hn
    subst hb
    rw [run_convert_bytes_string w 59 9 5 none 0 0 Try.underlying59 Try.underlying5 Try.underlying9]
    rfl
  · rw [run_convert_bytes_string w 59 9 5 _ _ _ Try.underlying59 Try.underlying5 Try.underlying9]
    refine run_bytesToString w ⟨g, 0, none⟩ bs.length cap bs ?_
    have := run_loadCells_list (P := Try.prog) (w := w) ⟨g, 0, none⟩ (bs.map (Value.int .u8)) ?_
    · rw [List.length_map] at this; exact this
    · intro j u hu
      have e : (⟨g, 0, none⟩ : Addr).add j = ⟨g, j, none⟩ := by unfold Addr.add; split <;> simp_all
      rw [e]
      have hj : j < bs.length := by
        rcases Nat.lt_or_ge j bs.length with hlt | hge
        · exact hlt
        · rw [List.getElem?_eq_none (by simpa using hge)] at hu; simp at hu
      unfold World.cell?
      rw [hh]
      simp only [Option.isSome_none, Bool.false_eq_true, if_false]
      rw [← htk, List.getElem?_take, if_pos (by omega)] at hu
      rw [← Array.getElem?_toList]; exact hu
def gcalm {α : Type} (P : Program) : Sem α → Array MapEntry → Nat → List Nat → Option (α × List Nat)
  | .pure a, _, _, l => some (a, l)
  | .program k, es, c, l => gcalm P (k P) es c l
  | .mark _ k, es, c, l => gcalm P k es c l
  | .getObj r' k, es, c, l => gcalm P (k (.map es c)) es c (r' :: l)
  | _, _, _, _ => none
theorem gcalm_asks {α : Type} {P : Program} : ∀ (s : Sem α) {es : Array MapEntry} {c : Nat} {l : List Nat} {x : α × List Nat}, gcalm P s es c l = some x → ∀ y ∈ l, y ∈ x.2
  | .pure a, es, c, l, x, h, y, hy => by simp only [gcalm, Option.some.injEq] at h; subst h; exact hy
  | .program k, es, c, l, x, h, y, hy => gcalm_asks (k P) h y hy
  | .mark _ k, es, c, l, x, h, y, hy => gcalm_asks k h y hy
  | .getObj r k, es, c, l, x, h, y, hy => gcalm_asks (k (.map es c)) h y (List.mem_cons_of_mem _ hy)
  | .setObj _ _ _, _, _, _, _, h, _, _ => by simp [gcalm] at h
  | .load .., _, _, _, _, h, _, _ => by simp [gcalm] at h
  | .store .., _, _, _, _, h, _, _ => by simp [gcalm] at h
  | .new .., _, _, _, _, h, _, _ => by simp [gcalm] at h
  | .shape .., _, _, _, _, h, _, _ => by simp [gcalm] at h
  | .freeze .., _, _, _, _, h, _, _ => by simp [gcalm] at h
  | .frozen .., _, _, _, _, h, _, _ => by simp [gcalm] at h
  | .choose .., _, _, _, _, h, _, _ => by simp [gcalm] at h
  | .sys .., _, _, _, _, h, _, _ => by simp [gcalm] at h
  | .halt _, _, _, _, _, h, _, _ => by simp [gcalm] at h
theorem run_gcalm {α : Type} {P : Program} (w : World) {r : Nat} : ∀ (s : Sem α) {es : Array MapEntry} {c : Nat} {l : List Nat} {x : α × List Nat}, gcalm P s es c l = some x → (∀ y ∈ x.2, y = r) → w.heap[r]? = some (.map es c) → s.run P w = .ok x.1 w
  | .pure a, es, c, l, x, h, _, _ => by simp only [gcalm, Option.some.injEq] at h; subst h; rfl
  | .program k, es, c, l, x, h, hy, hr => run_gcalm w (k P) h hy hr
  | .mark _ k, es, c, l, x, h, hy, hr => run_gcalm w k h hy hr
  | .getObj r' k, es, c, l, x, h, hy, hr => by
    have h' : gcalm P (k (.map es c)) es c (r' :: l) = some x := h
    have e : r' = r := hy r' (gcalm_asks _ h' r' List.mem_cons_self)
    subst e
    have := run_gcalm w (k (.map es c)) h' hy hr
    rw [Sem.run, hr]; exact this
  | .setObj _ _ _, _, _, _, _, h, _, _ => by simp [gcalm] at h
  | .load .., _, _, _, _, h, _, _ => by simp [gcalm] at h
  | .store .., _, _, _, _, h, _, _ => by simp [gcalm] at h
  | .new .., _, _, _, _, h, _, _ => by simp [gcalm] at h
  | .shape .., _, _, _, _, h, _, _ => by simp [gcalm] at h
  | .freeze .., _, _, _, _, h, _, _ => by simp [gcalm] at h
  | .frozen .., _, _, _, _, h, _, _ => by simp [gcalm] at h
  | .choose .., _, _, _, _, h, _, _ => by simp [gcalm] at h
  | .sys .., _, _, _, _, h, _, _ => by simp [gcalm] at h
  | .halt _, _, _, _, _, h, _, _ => by simp [gcalm] at h
def Looks (op c m : Int) (f : Nat) : Prop := ∀ (V : World) (r : Nat), V.heap[r]? = some (.map waysE 33) →
    (Instr.lookup 83 (.map (some r)) (.int .i64 op) false).run Try.prog V = .ok (.agg #[.int .u8 c, .int .u8 m, fnV f]) V
theorem looks (op c m : Int) (f : Nat) (h1 : ∀ r : Nat, (gcalm Try.prog (Instr.lookup 83 (.map (some r)) (.int .i64 op) false) waysE 33 []).map (fun y => y.2) = some [r])
    (h2 : ∀ r : Nat, (gcalm Try.prog (Instr.lookup 83 (.map (some r)) (.int .i64 op) false) waysE 33 []).map (fun y => y.1) = some (.agg #[.int .u8 c, .int .u8 m, fnV f])) : Looks op c m f := by
  intro V r hr
  have h1 := h1 r
  have h2 := h2 r
  cases e : gcalm Try.prog (Instr.lookup 83 (.map (some r)) (.int .i64 op) false) waysE 33 [] with
  | none => rw [e] at h1; simp at h1
  | some y =>
    rw [e] at h1 h2
    simp only [Option.map_some, Option.some.injEq] at h1 h2
    have := run_gcalm V _ e (fun z hz => by rw [h1] at hz; simpa using hz) hr
    rw [this, h2]
attribute [local irreducible] waysE
theorem inst_put (op d s t mb mi ms md imm c m : Int) (f : Nat) (bs : List Int) (w : World)
    (hd : -9223372036854775808 ≤ md ∧ md ≤ 9223372036854775807) (hi : -9223372036854775808 ≤ imm ∧ imm ≤ 9223372036854775807)
    (hk : (errOf (chk op d s t mb mi ms md imm) != 0) = false) (hlook : Looks op c m f) (hent : ∀ (args : Array Value) (w : World), (callFunc f args).run Try.prog w = .ok (.enter f args) w)
    (hcall : ∀ V : World, Calls Try.prog f #[.agg #[.int .u8 c, .int .u8 m], .agg #[.int .i64 op, .int .i64 d, .int .i64 s, .int .i64 t, .int .i64 mb, .int .i64 mi, .int .i64 ms, .int .i64 md, .int .i64 imm]] V
      fun e w' => RetB V.heap.size bs e w' ∧ Below V.heap.size V w') :
    Calls Try.prog 29 #[.agg #[.int .i64 op, .int .i64 d, .int .i64 s, .int .i64 t, .int .i64 mb, .int .i64 mi, .int .i64 ms, .int .i64 md, .int .i64 imm]] w
      fun e w' => e = .returned (.tuple #[.string (strB bs), .int .i64 0]) ∧ Below w.heap.size w w' := by
  go_enter Try.func29, Try.ntmps29
  go_wp2_with (go_at_call 41; refine (check_any op d s t mb mi ms md imm _ hd hi).mono ?_; rintro e w1 ⟨rfl, hb1⟩)
  have f_op : w1.cell? ⟨w.heap.size, 0, none⟩ = some (.int .i64 op) := by
    refine cellk hb1 (by simp) ?_
    go_simp
  have f_d : w1.cell? ⟨w.heap.size, 1, none⟩ = some (.int .i64 d) := by
    refine cellk hb1 (by simp) ?_
    go_simp
  have f_s : w1.cell? ⟨w.heap.size, 2, none⟩ = some (.int .i64 s) := by
    refine cellk hb1 (by simp) ?_
    go_simp
  have f_t : w1.cell? ⟨w.heap.size, 3, none⟩ = some (.int .i64 t) := by
    refine cellk hb1 (by simp) ?_
    go_simp
  have f_mb : w1.cell? ⟨w.heap.size, 4, none⟩ = some (.int .i64 mb) := by
    refine cellk hb1 (by simp) ?_
    go_simp
  have f_mi : w1.cell? ⟨w.heap.size, 5, none⟩ = some (.int .i64 mi) := by
    refine cellk hb1 (by simp) ?_
    go_simp
  have f_ms : w1.cell? ⟨w.heap.size, 6, none⟩ = some (.int .i64 ms) := by
    refine cellk hb1 (by simp) ?_
    go_simp
  have f_md : w1.cell? ⟨w.heap.size, 7, none⟩ = some (.int .i64 md) := by
    refine cellk hb1 (by simp) ?_
    go_simp
  have f_imm : w1.cell? ⟨w.heap.size, 8, none⟩ = some (.int .i64 imm) := by
    refine cellk hb1 (by simp) ?_
    go_simp
  have hB : Below w.heap.size w w1 := (bal (Below.refl _ _) _).trans (hb1.mono (by simp))
  have hz : w.heap.size < w1.heap.size := by have := hb1.size; simp at this; omega
  clear hb1
  have hl2 : ∀ o o2 : Obj, ((w1.alloc o).alloc o2).heap[w1.heap.size]? = some o := by
    intro o o2; show ((w1.heap.push o).push o2)[w1.heap.size]? = _; rw [Array.getElem?_push, if_neg (by simp), Array.getElem?_push, if_pos rfl]
  have hl3 : ∀ o o2 : Obj, ((w1.alloc o).alloc o2).heap[w1.heap.size + 1]? = some o2 := by
    intro o o2; show ((w1.heap.push o).push o2)[w1.heap.size + 1]? = _; rw [Array.getElem?_push, if_pos (by simp)]
  have look1 : (Instr.lookup 83 (.map (some (w1.heap.size))) (.int .i64 op) false).run Try.prog (w1.alloc (.map waysE 33)) = .ok (.agg #[.int .u8 c, .int .u8 m, .func (.func f) #[] #[]]) (w1.alloc (.map waysE 33)) := hlook _ _ (heap_last _ _)
  have look2 : (Instr.lookup 83 (.map (some (w1.heap.size))) (.int .i64 op) false).run Try.prog ((w1.alloc (.map waysE 33)).alloc (Obj.cells #[Value.int IntKind.u8 0, Value.int IntKind.u8 0, Value.nilFunc] 82)) = .ok (.agg #[.int .u8 c, .int .u8 m, .func (.func f) #[] #[]]) ((w1.alloc (.map waysE 33)).alloc (Obj.cells #[Value.int IntKind.u8 0, Value.int IntKind.u8 0, Value.nilFunc] 82)) := hlook _ _ (hl2 _ _)
  have look3 : (Instr.lookup 83 (.map (some (w1.heap.size + 1))) (.int .i64 op) false).run Try.prog ((w1.alloc (Obj.cells #[Value.int IntKind.u8 0, Value.int IntKind.u8 0, Value.nilFunc] 82)).alloc (.map waysE 33)) = .ok (.agg #[.int .u8 c, .int .u8 m, .func (.func f) #[] #[]]) ((w1.alloc (Obj.cells #[Value.int IntKind.u8 0, Value.int IntKind.u8 0, Value.nilFunc] 82)).alloc (.map waysE 33)) := hlook _ _ (hl3 _ _)
  have look4 : (Instr.lookup 83 (.map (some (w1.heap.size))) (.int .i64 op) false).run Try.prog (w1.alloc (.map waysE 33)).drew = .ok (.agg #[.int .u8 c, .int .u8 m, .func (.func f) #[] #[]]) (w1.alloc (.map waysE 33)).drew := hlook _ _ (heap_last _ _)
  have look5 : (Instr.lookup 83 (.map (some (w1.heap.size))) (.int .i64 op) false).run Try.prog ((w1.alloc (.map waysE 33)).alloc (Obj.cells #[Value.int IntKind.u8 0, Value.int IntKind.u8 0, Value.nilFunc] 82)).drew = .ok (.agg #[.int .u8 c, .int .u8 m, .func (.func f) #[] #[]]) ((w1.alloc (.map waysE 33)).alloc (Obj.cells #[Value.int IntKind.u8 0, Value.int IntKind.u8 0, Value.nilFunc] 82)).drew := hlook _ _ (hl2 _ _)
  have look6 : (Instr.lookup 83 (.map (some (w1.heap.size + 1))) (.int .i64 op) false).run Try.prog ((w1.alloc (Obj.cells #[Value.int IntKind.u8 0, Value.int IntKind.u8 0, Value.nilFunc] 82)).alloc (.map waysE 33)).drew = .ok (.agg #[.int .u8 c, .int .u8 m, .func (.func f) #[] #[]]) ((w1.alloc (Obj.cells #[Value.int IntKind.u8 0, Value.int IntKind.u8 0, Value.nilFunc] 82)).alloc (.map waysE 33)).drew := hlook _ _ (hl3 _ _)
  go_region_held3 (fun V : World => V.cell? ⟨w.heap.size, 0, none⟩ = some (.int .i64 op)) (first | exact f_op | go_simp) (first | (go_at_call 43; refine (ways_any _).mono ?_; rintro e w' ⟨rfl, rfl⟩))
  all_goals
    clear look1 look2 look3 look4 look5 look6 hl2 hl3
    go_wp2_with fail
    go_at_fn f
    refine (hcall _).mono ?_
    rintro e w2 ⟨⟨v, rfl, hv⟩, hb2⟩
    have hcv := conv_str hv
    have hle : ∀ o o2 : Obj, w.heap.size ≤ ((w1.alloc o).alloc o2).drew.heap.size := by intro o o2; show _ ≤ ((w1.alloc o).alloc o2).heap.size; simp; omega
    have hb3 := (below_dr (bal (bal hB _) _)).trans (hb2.mono (hle _ _))
    clear hv hb2 hle
    go_wp2_with fail
    go_ret2
    exact ⟨rfl, hb3⟩
theorem inst_err (op d s t mb mi ms md imm : Int) (w : World)
    (hd : -9223372036854775808 ≤ md ∧ md ≤ 9223372036854775807) (hi : -9223372036854775808 ≤ imm ∧ imm ≤ 9223372036854775807)
    (hk : (errOf (chk op d s t mb mi ms md imm) != 0) = true) :
    Calls Try.prog 29 #[.agg #[.int .i64 op, .int .i64 d, .int .i64 s, .int .i64 t, .int .i64 mb, .int .i64 mi, .int .i64 ms, .int .i64 md, .int .i64 imm]] w
      fun e w' => e = .returned (.tuple #[.string ⟨#[]⟩, .int .i64 (errOf (chk op d s t mb mi ms md imm))]) ∧ Below w.heap.size w w' := by
  go_enter Try.func29, Try.ntmps29
  go_wp2_with (go_at_call 41; refine (check_any op d s t mb mi ms md imm _ hd hi).mono ?_; rintro e w1 ⟨rfl, hb1⟩)
  have hB : Below w.heap.size w w1 := (bal (Below.refl _ _) _).trans (hb1.mono (by simp))
  go_ret2
  exact ⟨rfl, hB⟩
end Go.Proofs.Ytbcaelhchmoigaa
namespace Go.Proofs.Ytbcaelhchmoigaa
open Go.RowKit Calm
def encL (op d s t mb mi ms md imm : Int) : List Int :=
  if op = 2 then ([rexI 0 0 d, 184 + loR d] ++ littleL imm 8) else
  if op = 3 then ([rexI d mi mb, 139] ++ placeL d mb mi ms md) else
  if op = 4 then ([rexI s mi mb, 137] ++ placeL s mb mi ms md) else
  if op = 5 then ([rexI d mi mb, 141] ++ placeL d mb mi ms md) else
  if op = 15 then ([rexI 0 0 d, 129, bothI 0 d] ++ littleL imm 4) else
  if op = 16 then ([rexI 0 0 d, 129, bothI 4 d] ++ littleL imm 4) else
  if op = 17 then ([rexI 0 0 d, 129, bothI 5 d] ++ littleL imm 4) else
  if op = 18 then ([rexI 0 0 d, 129, bothI 7 d] ++ littleL imm 4) else
  if op = 19 then [196, mulx1 d t, mulx2 s, 246, bothI d t] else
  if op = 20 then [102, rexI d 0 s, 15, 56, 246, bothI d s] else
  if op = 21 then [243, rexI d 0 s, 15, 56, 246, bothI d s] else
  if op = 22 then [rexI 0 0 d, 247, bothI 3 d] else
  if op = 23 then [rexI 0 0 d, 247, bothI 2 d] else
  if op = 24 then ([rexI 0 0 d, 193, bothI 4 d] ++ [imm]) else
  if op = 25 then ([rexI 0 0 d, 193, bothI 5 d] ++ [imm]) else
  if op = 26 then [rexI d 0 s, 15, 66, bothI d s] else
  if op = 27 then [rexI d 0 s, 15, 69, bothI d s] else
  if op = 28 then stackL 80 s else
  if op = 29 then stackL 88 d else
  if op = 30 then jumpL 233 0 imm else
  if op = 31 then jumpL 15 133 imm else
  if op = 32 then jumpL 15 130 imm else
  if op = 33 then [195] else
  [rexI s 0 d, (if op = 1 then 137 else if op = 6 then 1 else if op = 7 then 17 else if op = 8 then 41 else if op = 9 then 25 else if op = 10 then 33 else if op = 11 then 9 else if op = 12 then 49 else if op = 13 then 57 else 133), bothI s d]
theorem reg_of {x : Int} (h : reg x = true) : Reg x := by unfold reg at h; simp only [Bool.and_eq_true, decide_eq_true_eq] at h; exact h
theorem of_reg {x : Int} (h : Reg x) : reg x = true := by unfold reg; unfold Reg at h; simp only [Bool.and_eq_true, decide_eq_true_eq]; exact h
theorem fldT {f k x : Int} (hk : has f k = true) : (fld f k x = true) = Reg x := by
  unfold fld; rw [if_pos hk]; exact propext ⟨reg_of, of_reg⟩
theorem fldF {f k x : Int} (hk : has f k = false) : (fld f k x = true) = (x = 0) := by
  unfold fld; rw [if_neg (by rw [hk]; decide)]; simp
theorem memT {f mb mi ms md : Int} (hk : has f 8 = true) : (memOk f mb mi ms md = true) = (plc mb mi ms md = true) := by
  unfold memOk; rw [if_pos hk]
theorem memF {f mb mi ms md : Int} (hk : has f 8 = false) : (memOk f mb mi ms md = true) = (mb = 0 ∧ mi = 0 ∧ ms = 0 ∧ md = 0) := by
  unfold memOk memZ; rw [if_neg (by rw [hk]; decide)]; simp [and_assoc]
theorem num32 {f n : Int} (h1 : has f 32 = false) (h2 : has f 16 = true) : (numOk f n = true) = (-2147483648 ≤ n ∧ n ≤ 2147483647) := by
  unfold numOk smallB; rw [if_neg (by rw [h1]; decide), if_pos h2]; simp
theorem num63 {f n : Int} (h1 : has f 32 = false) (h2 : has f 16 = false) (h3 : has f 64 = true) : (numOk f n = true) = (1 ≤ n ∧ n ≤ 63) := by
  unfold numOk; rw [if_neg (by rw [h1]; decide), if_neg (by rw [h2]; decide), if_pos h3]; simp
theorem num0 {f n : Int} (h1 : has f 32 = false) (h2 : has f 16 = false) (h3 : has f 64 = false) : (numOk f n = true) = (n = 0) := by
  unfold numOk; rw [if_neg (by rw [h1]; decide), if_neg (by rw [h2]; decide), if_neg (by rw [h3]; decide)]; simp
theorem num64 {f n : Int} (h1 : has f 32 = true) : (numOk f n = true) = True := by
  unfold numOk; rw [if_pos h1]; simp
theorem chk_open (op d s t mb mi ms md imm : Int) : (chk op d s t mb mi ms md imm = true) =
    (((((((fName op).toList.isEmpty = false ∧ numOk (fIs op) imm = true) ∧ fld (fIs op) 1 d = true) ∧ fld (fIs op) 2 s = true) ∧ fld (fIs op) 4 t = true) ∧ memOk (fIs op) mb mi ms md = true) ∧ (has (fIs op) 4 = false ∨ ¬ d = s)) := by
  unfold chk
  simp only [Bool.and_eq_true, Bool.not_eq_true', Bool.and_eq_false_imp, beq_eq_false_iff_ne, ne_eq]
  by_cases h : has (fIs op) 4 = true
  · simp [h]
  · simp [Bool.not_eq_true] at h; simp [h]
theorem chk_range {op d s t mb mi ms md imm : Int} (h : chk op d s t mb mi ms md imm = true) : 1 ≤ op ∧ op ≤ 33 := by
  rw [chk_open] at h
  have h := h.1.1.1.1.1.1
  by_cases h1 : 0 ≤ op ∧ op < 34
  · rcases Int.lt_or_le 0 op with h2 | h2
    · omega
    · have : op = 0 := by omega
      subst this
      exact absurd h (by decide +kernel)
  · unfold fName at h
    rw [if_neg h1] at h
    exact absurd h (by decide +kernel)
theorem chk_1 (d s t mb mi ms md imm : Int) : (chk 1 d s t mb mi ms md imm = true) = (imm = 0 ∧ Reg d ∧ Reg s ∧ t = 0 ∧ (mb = 0 ∧ mi = 0 ∧ ms = 0 ∧ md = 0)) := by
  have e : (fName 1).toList.isEmpty = false := by decide +kernel
  have h4 : has (fIs 1) 4 = false := by decide +kernel
  rw [chk_open, e, h4, num0 (f := fIs 1) (by decide +kernel) (by decide +kernel) (by decide +kernel), fldT (f := fIs 1) (k := 1) (by decide +kernel), fldT (f := fIs 1) (k := 2) (by decide +kernel), fldF (f := fIs 1) (k := 4) (by decide +kernel), memF (f := fIs 1) (by decide +kernel)]
  simp [and_assoc]
theorem chk_2 (d s t mb mi ms md imm : Int) : (chk 2 d s t mb mi ms md imm = true) = (True ∧ Reg d ∧ s = 0 ∧ t = 0 ∧ (mb = 0 ∧ mi = 0 ∧ ms = 0 ∧ md = 0)) := by
  have e : (fName 2).toList.isEmpty = false := by decide +kernel
  have h4 : has (fIs 2) 4 = false := by decide +kernel
  rw [chk_open, e, h4, num64 (f := fIs 2) (by decide +kernel), fldT (f := fIs 2) (k := 1) (by decide +kernel), fldF (f := fIs 2) (k := 2) (by decide +kernel), fldF (f := fIs 2) (k := 4) (by decide +kernel), memF (f := fIs 2) (by decide +kernel)]
  simp [and_assoc]
theorem chk_3 (d s t mb mi ms md imm : Int) : (chk 3 d s t mb mi ms md imm = true) = (imm = 0 ∧ Reg d ∧ s = 0 ∧ t = 0 ∧ plc mb mi ms md = true) := by
  have e : (fName 3).toList.isEmpty = false := by decide +kernel
  have h4 : has (fIs 3) 4 = false := by decide +kernel
  rw [chk_open, e, h4, num0 (f := fIs 3) (by decide +kernel) (by decide +kernel) (by decide +kernel), fldT (f := fIs 3) (k := 1) (by decide +kernel), fldF (f := fIs 3) (k := 2) (by decide +kernel), fldF (f := fIs 3) (k := 4) (by decide +kernel), memT (f := fIs 3) (by decide +kernel)]
  simp [and_assoc]
theorem chk_4 (d s t mb mi ms md imm : Int) : (chk 4 d s t mb mi ms md imm = true) = (imm = 0 ∧ d = 0 ∧ Reg s ∧ t = 0 ∧ plc mb mi ms md = true) := by
  have e : (fName 4).toList.isEmpty = false := by decide +kernel
  have h4 : has (fIs 4) 4 = false := by decide +kernel
  rw [chk_open, e, h4, num0 (f := fIs 4) (by decide +kernel) (by decide +kernel) (by decide +kernel), fldF (f := fIs 4) (k := 1) (by decide +kernel), fldT (f := fIs 4) (k := 2) (by decide +kernel), fldF (f := fIs 4) (k := 4) (by decide +kernel), memT (f := fIs 4) (by decide +kernel)]
  simp [and_assoc]
theorem chk_5 (d s t mb mi ms md imm : Int) : (chk 5 d s t mb mi ms md imm = true) = (imm = 0 ∧ Reg d ∧ s = 0 ∧ t = 0 ∧ plc mb mi ms md = true) := by
  have e : (fName 5).toList.isEmpty = false := by decide +kernel
  have h4 : has (fIs 5) 4 = false := by decide +kernel
  rw [chk_open, e, h4, num0 (f := fIs 5) (by decide +kernel) (by decide +kernel) (by decide +kernel), fldT (f := fIs 5) (k := 1) (by decide +kernel), fldF (f := fIs 5) (k := 2) (by decide +kernel), fldF (f := fIs 5) (k := 4) (by decide +kernel), memT (f := fIs 5) (by decide +kernel)]
  simp [and_assoc]
theorem chk_6 (d s t mb mi ms md imm : Int) : (chk 6 d s t mb mi ms md imm = true) = (imm = 0 ∧ Reg d ∧ Reg s ∧ t = 0 ∧ (mb = 0 ∧ mi = 0 ∧ ms = 0 ∧ md = 0)) := by
  have e : (fName 6).toList.isEmpty = false := by decide +kernel
  have h4 : has (fIs 6) 4 = false := by decide +kernel
  rw [chk_open, e, h4, num0 (f := fIs 6) (by decide +kernel) (by decide +kernel) (by decide +kernel), fldT (f := fIs 6) (k := 1) (by decide +kernel), fldT (f := fIs 6) (k := 2) (by decide +kernel), fldF (f := fIs 6) (k := 4) (by decide +kernel), memF (f := fIs 6) (by decide +kernel)]
  simp [and_assoc]
theorem chk_7 (d s t mb mi ms md imm : Int) : (chk 7 d s t mb mi ms md imm = true) = (imm = 0 ∧ Reg d ∧ Reg s ∧ t = 0 ∧ (mb = 0 ∧ mi = 0 ∧ ms = 0 ∧ md = 0)) := by
  have e : (fName 7).toList.isEmpty = false := by decide +kernel
  have h4 : has (fIs 7) 4 = false := by decide +kernel
  rw [chk_open, e, h4, num0 (f := fIs 7) (by decide +kernel) (by decide +kernel) (by decide +kernel), fldT (f := fIs 7) (k := 1) (by decide +kernel), fldT (f := fIs 7) (k := 2) (by decide +kernel), fldF (f := fIs 7) (k := 4) (by decide +kernel), memF (f := fIs 7) (by decide +kernel)]
  simp [and_assoc]
theorem chk_8 (d s t mb mi ms md imm : Int) : (chk 8 d s t mb mi ms md imm = true) = (imm = 0 ∧ Reg d ∧ Reg s ∧ t = 0 ∧ (mb = 0 ∧ mi = 0 ∧ ms = 0 ∧ md = 0)) := by
  have e : (fName 8).toList.isEmpty = false := by decide +kernel
  have h4 : has (fIs 8) 4 = false := by decide +kernel
  rw [chk_open, e, h4, num0 (f := fIs 8) (by decide +kernel) (by decide +kernel) (by decide +kernel), fldT (f := fIs 8) (k := 1) (by decide +kernel), fldT (f := fIs 8) (k := 2) (by decide +kernel), fldF (f := fIs 8) (k := 4) (by decide +kernel), memF (f := fIs 8) (by decide +kernel)]
  simp [and_assoc]
theorem chk_9 (d s t mb mi ms md imm : Int) : (chk 9 d s t mb mi ms md imm = true) = (imm = 0 ∧ Reg d ∧ Reg s ∧ t = 0 ∧ (mb = 0 ∧ mi = 0 ∧ ms = 0 ∧ md = 0)) := by
  have e : (fName 9).toList.isEmpty = false := by decide +kernel
  have h4 : has (fIs 9) 4 = false := by decide +kernel
  rw [chk_open, e, h4, num0 (f := fIs 9) (by decide +kernel) (by decide +kernel) (by decide +kernel), fldT (f := fIs 9) (k := 1) (by decide +kernel), fldT (f := fIs 9) (k := 2) (by decide +kernel), fldF (f := fIs 9) (k := 4) (by decide +kernel), memF (f := fIs 9) (by decide +kernel)]
  simp [and_assoc]
theorem chk_10 (d s t mb mi ms md imm : Int) : (chk 10 d s t mb mi ms md imm = true) = (imm = 0 ∧ Reg d ∧ Reg s ∧ t = 0 ∧ (mb = 0 ∧ mi = 0 ∧ ms = 0 ∧ md = 0)) := by
  have e : (fName 10).toList.isEmpty = false := by decide +kernel
  have h4 : has (fIs 10) 4 = false := by decide +kernel
  rw [chk_open, e, h4, num0 (f := fIs 10) (by decide +kernel) (by decide +kernel) (by decide +kernel), fldT (f := fIs 10) (k := 1) (by decide +kernel), fldT (f := fIs 10) (k := 2) (by decide +kernel), fldF (f := fIs 10) (k := 4) (by decide +kernel), memF (f := fIs 10) (by decide +kernel)]
  simp [and_assoc]
theorem chk_11 (d s t mb mi ms md imm : Int) : (chk 11 d s t mb mi ms md imm = true) = (imm = 0 ∧ Reg d ∧ Reg s ∧ t = 0 ∧ (mb = 0 ∧ mi = 0 ∧ ms = 0 ∧ md = 0)) := by
  have e : (fName 11).toList.isEmpty = false := by decide +kernel
  have h4 : has (fIs 11) 4 = false := by decide +kernel
  rw [chk_open, e, h4, num0 (f := fIs 11) (by decide +kernel) (by decide +kernel) (by decide +kernel), fldT (f := fIs 11) (k := 1) (by decide +kernel), fldT (f := fIs 11) (k := 2) (by decide +kernel), fldF (f := fIs 11) (k := 4) (by decide +kernel), memF (f := fIs 11) (by decide +kernel)]
  simp [and_assoc]
theorem chk_12 (d s t mb mi ms md imm : Int) : (chk 12 d s t mb mi ms md imm = true) = (imm = 0 ∧ Reg d ∧ Reg s ∧ t = 0 ∧ (mb = 0 ∧ mi = 0 ∧ ms = 0 ∧ md = 0)) := by
  have e : (fName 12).toList.isEmpty = false := by decide +kernel
  have h4 : has (fIs 12) 4 = false := by decide +kernel
  rw [chk_open, e, h4, num0 (f := fIs 12) (by decide +kernel) (by decide +kernel) (by decide +kernel), fldT (f := fIs 12) (k := 1) (by decide +kernel), fldT (f := fIs 12) (k := 2) (by decide +kernel), fldF (f := fIs 12) (k := 4) (by decide +kernel), memF (f := fIs 12) (by decide +kernel)]
  simp [and_assoc]
theorem chk_13 (d s t mb mi ms md imm : Int) : (chk 13 d s t mb mi ms md imm = true) = (imm = 0 ∧ Reg d ∧ Reg s ∧ t = 0 ∧ (mb = 0 ∧ mi = 0 ∧ ms = 0 ∧ md = 0)) := by
  have e : (fName 13).toList.isEmpty = false := by decide +kernel
  have h4 : has (fIs 13) 4 = false := by decide +kernel
  rw [chk_open, e, h4, num0 (f := fIs 13) (by decide +kernel) (by decide +kernel) (by decide +kernel), fldT (f := fIs 13) (k := 1) (by decide +kernel), fldT (f := fIs 13) (k := 2) (by decide +kernel), fldF (f := fIs 13) (k := 4) (by decide +kernel), memF (f := fIs 13) (by decide +kernel)]
  simp [and_assoc]
theorem chk_14 (d s t mb mi ms md imm : Int) : (chk 14 d s t mb mi ms md imm = true) = (imm = 0 ∧ Reg d ∧ Reg s ∧ t = 0 ∧ (mb = 0 ∧ mi = 0 ∧ ms = 0 ∧ md = 0)) := by
  have e : (fName 14).toList.isEmpty = false := by decide +kernel
  have h4 : has (fIs 14) 4 = false := by decide +kernel
  rw [chk_open, e, h4, num0 (f := fIs 14) (by decide +kernel) (by decide +kernel) (by decide +kernel), fldT (f := fIs 14) (k := 1) (by decide +kernel), fldT (f := fIs 14) (k := 2) (by decide +kernel), fldF (f := fIs 14) (k := 4) (by decide +kernel), memF (f := fIs 14) (by decide +kernel)]
  simp [and_assoc]
theorem chk_15 (d s t mb mi ms md imm : Int) : (chk 15 d s t mb mi ms md imm = true) = ((-2147483648 ≤ imm ∧ imm ≤ 2147483647) ∧ Reg d ∧ s = 0 ∧ t = 0 ∧ (mb = 0 ∧ mi = 0 ∧ ms = 0 ∧ md = 0)) := by
  have e : (fName 15).toList.isEmpty = false := by decide +kernel
  have h4 : has (fIs 15) 4 = false := by decide +kernel
  rw [chk_open, e, h4, num32 (f := fIs 15) (by decide +kernel) (by decide +kernel), fldT (f := fIs 15) (k := 1) (by decide +kernel), fldF (f := fIs 15) (k := 2) (by decide +kernel), fldF (f := fIs 15) (k := 4) (by decide +kernel), memF (f := fIs 15) (by decide +kernel)]
  simp [and_assoc]
theorem chk_16 (d s t mb mi ms md imm : Int) : (chk 16 d s t mb mi ms md imm = true) = ((-2147483648 ≤ imm ∧ imm ≤ 2147483647) ∧ Reg d ∧ s = 0 ∧ t = 0 ∧ (mb = 0 ∧ mi = 0 ∧ ms = 0 ∧ md = 0)) := by
  have e : (fName 16).toList.isEmpty = false := by decide +kernel
  have h4 : has (fIs 16) 4 = false := by decide +kernel
  rw [chk_open, e, h4, num32 (f := fIs 16) (by decide +kernel) (by decide +kernel), fldT (f := fIs 16) (k := 1) (by decide +kernel), fldF (f := fIs 16) (k := 2) (by decide +kernel), fldF (f := fIs 16) (k := 4) (by decide +kernel), memF (f := fIs 16) (by decide +kernel)]
  simp [and_assoc]
theorem chk_17 (d s t mb mi ms md imm : Int) : (chk 17 d s t mb mi ms md imm = true) = ((-2147483648 ≤ imm ∧ imm ≤ 2147483647) ∧ Reg d ∧ s = 0 ∧ t = 0 ∧ (mb = 0 ∧ mi = 0 ∧ ms = 0 ∧ md = 0)) := by
  have e : (fName 17).toList.isEmpty = false := by decide +kernel
  have h4 : has (fIs 17) 4 = false := by decide +kernel
  rw [chk_open, e, h4, num32 (f := fIs 17) (by decide +kernel) (by decide +kernel), fldT (f := fIs 17) (k := 1) (by decide +kernel), fldF (f := fIs 17) (k := 2) (by decide +kernel), fldF (f := fIs 17) (k := 4) (by decide +kernel), memF (f := fIs 17) (by decide +kernel)]
  simp [and_assoc]
theorem chk_18 (d s t mb mi ms md imm : Int) : (chk 18 d s t mb mi ms md imm = true) = ((-2147483648 ≤ imm ∧ imm ≤ 2147483647) ∧ Reg d ∧ s = 0 ∧ t = 0 ∧ (mb = 0 ∧ mi = 0 ∧ ms = 0 ∧ md = 0)) := by
  have e : (fName 18).toList.isEmpty = false := by decide +kernel
  have h4 : has (fIs 18) 4 = false := by decide +kernel
  rw [chk_open, e, h4, num32 (f := fIs 18) (by decide +kernel) (by decide +kernel), fldT (f := fIs 18) (k := 1) (by decide +kernel), fldF (f := fIs 18) (k := 2) (by decide +kernel), fldF (f := fIs 18) (k := 4) (by decide +kernel), memF (f := fIs 18) (by decide +kernel)]
  simp [and_assoc]
theorem chk_19 (d s t mb mi ms md imm : Int) : (chk 19 d s t mb mi ms md imm = true) = (imm = 0 ∧ Reg d ∧ Reg s ∧ Reg t ∧ (mb = 0 ∧ mi = 0 ∧ ms = 0 ∧ md = 0) ∧ d ≠ s) := by
  have e : (fName 19).toList.isEmpty = false := by decide +kernel
  have h4 : has (fIs 19) 4 = true := by decide +kernel
  rw [chk_open, e, h4, num0 (f := fIs 19) (by decide +kernel) (by decide +kernel) (by decide +kernel), fldT (f := fIs 19) (k := 1) (by decide +kernel), fldT (f := fIs 19) (k := 2) (by decide +kernel), fldT (f := fIs 19) (k := 4) (by decide +kernel), memF (f := fIs 19) (by decide +kernel)]
  simp [and_assoc]
theorem chk_20 (d s t mb mi ms md imm : Int) : (chk 20 d s t mb mi ms md imm = true) = (imm = 0 ∧ Reg d ∧ Reg s ∧ t = 0 ∧ (mb = 0 ∧ mi = 0 ∧ ms = 0 ∧ md = 0)) := by
  have e : (fName 20).toList.isEmpty = false := by decide +kernel
  have h4 : has (fIs 20) 4 = false := by decide +kernel
  rw [chk_open, e, h4, num0 (f := fIs 20) (by decide +kernel) (by decide +kernel) (by decide +kernel), fldT (f := fIs 20) (k := 1) (by decide +kernel), fldT (f := fIs 20) (k := 2) (by decide +kernel), fldF (f := fIs 20) (k := 4) (by decide +kernel), memF (f := fIs 20) (by decide +kernel)]
  simp [and_assoc]
theorem chk_21 (d s t mb mi ms md imm : Int) : (chk 21 d s t mb mi ms md imm = true) = (imm = 0 ∧ Reg d ∧ Reg s ∧ t = 0 ∧ (mb = 0 ∧ mi = 0 ∧ ms = 0 ∧ md = 0)) := by
  have e : (fName 21).toList.isEmpty = false := by decide +kernel
  have h4 : has (fIs 21) 4 = false := by decide +kernel
  rw [chk_open, e, h4, num0 (f := fIs 21) (by decide +kernel) (by decide +kernel) (by decide +kernel), fldT (f := fIs 21) (k := 1) (by decide +kernel), fldT (f := fIs 21) (k := 2) (by decide +kernel), fldF (f := fIs 21) (k := 4) (by decide +kernel), memF (f := fIs 21) (by decide +kernel)]
  simp [and_assoc]
theorem chk_22 (d s t mb mi ms md imm : Int) : (chk 22 d s t mb mi ms md imm = true) = (imm = 0 ∧ Reg d ∧ s = 0 ∧ t = 0 ∧ (mb = 0 ∧ mi = 0 ∧ ms = 0 ∧ md = 0)) := by
  have e : (fName 22).toList.isEmpty = false := by decide +kernel
  have h4 : has (fIs 22) 4 = false := by decide +kernel
  rw [chk_open, e, h4, num0 (f := fIs 22) (by decide +kernel) (by decide +kernel) (by decide +kernel), fldT (f := fIs 22) (k := 1) (by decide +kernel), fldF (f := fIs 22) (k := 2) (by decide +kernel), fldF (f := fIs 22) (k := 4) (by decide +kernel), memF (f := fIs 22) (by decide +kernel)]
  simp [and_assoc]
theorem chk_23 (d s t mb mi ms md imm : Int) : (chk 23 d s t mb mi ms md imm = true) = (imm = 0 ∧ Reg d ∧ s = 0 ∧ t = 0 ∧ (mb = 0 ∧ mi = 0 ∧ ms = 0 ∧ md = 0)) := by
  have e : (fName 23).toList.isEmpty = false := by decide +kernel
  have h4 : has (fIs 23) 4 = false := by decide +kernel
  rw [chk_open, e, h4, num0 (f := fIs 23) (by decide +kernel) (by decide +kernel) (by decide +kernel), fldT (f := fIs 23) (k := 1) (by decide +kernel), fldF (f := fIs 23) (k := 2) (by decide +kernel), fldF (f := fIs 23) (k := 4) (by decide +kernel), memF (f := fIs 23) (by decide +kernel)]
  simp [and_assoc]
theorem chk_24 (d s t mb mi ms md imm : Int) : (chk 24 d s t mb mi ms md imm = true) = ((1 ≤ imm ∧ imm ≤ 63) ∧ Reg d ∧ s = 0 ∧ t = 0 ∧ (mb = 0 ∧ mi = 0 ∧ ms = 0 ∧ md = 0)) := by
  have e : (fName 24).toList.isEmpty = false := by decide +kernel
  have h4 : has (fIs 24) 4 = false := by decide +kernel
  rw [chk_open, e, h4, num63 (f := fIs 24) (by decide +kernel) (by decide +kernel) (by decide +kernel), fldT (f := fIs 24) (k := 1) (by decide +kernel), fldF (f := fIs 24) (k := 2) (by decide +kernel), fldF (f := fIs 24) (k := 4) (by decide +kernel), memF (f := fIs 24) (by decide +kernel)]
  simp [and_assoc]
theorem chk_25 (d s t mb mi ms md imm : Int) : (chk 25 d s t mb mi ms md imm = true) = ((1 ≤ imm ∧ imm ≤ 63) ∧ Reg d ∧ s = 0 ∧ t = 0 ∧ (mb = 0 ∧ mi = 0 ∧ ms = 0 ∧ md = 0)) := by
  have e : (fName 25).toList.isEmpty = false := by decide +kernel
  have h4 : has (fIs 25) 4 = false := by decide +kernel
  rw [chk_open, e, h4, num63 (f := fIs 25) (by decide +kernel) (by decide +kernel) (by decide +kernel), fldT (f := fIs 25) (k := 1) (by decide +kernel), fldF (f := fIs 25) (k := 2) (by decide +kernel), fldF (f := fIs 25) (k := 4) (by decide +kernel), memF (f := fIs 25) (by decide +kernel)]
  simp [and_assoc]
theorem chk_26 (d s t mb mi ms md imm : Int) : (chk 26 d s t mb mi ms md imm = true) = (imm = 0 ∧ Reg d ∧ Reg s ∧ t = 0 ∧ (mb = 0 ∧ mi = 0 ∧ ms = 0 ∧ md = 0)) := by
  have e : (fName 26).toList.isEmpty = false := by decide +kernel
  have h4 : has (fIs 26) 4 = false := by decide +kernel
  rw [chk_open, e, h4, num0 (f := fIs 26) (by decide +kernel) (by decide +kernel) (by decide +kernel), fldT (f := fIs 26) (k := 1) (by decide +kernel), fldT (f := fIs 26) (k := 2) (by decide +kernel), fldF (f := fIs 26) (k := 4) (by decide +kernel), memF (f := fIs 26) (by decide +kernel)]
  simp [and_assoc]
theorem chk_27 (d s t mb mi ms md imm : Int) : (chk 27 d s t mb mi ms md imm = true) = (imm = 0 ∧ Reg d ∧ Reg s ∧ t = 0 ∧ (mb = 0 ∧ mi = 0 ∧ ms = 0 ∧ md = 0)) := by
  have e : (fName 27).toList.isEmpty = false := by decide +kernel
  have h4 : has (fIs 27) 4 = false := by decide +kernel
  rw [chk_open, e, h4, num0 (f := fIs 27) (by decide +kernel) (by decide +kernel) (by decide +kernel), fldT (f := fIs 27) (k := 1) (by decide +kernel), fldT (f := fIs 27) (k := 2) (by decide +kernel), fldF (f := fIs 27) (k := 4) (by decide +kernel), memF (f := fIs 27) (by decide +kernel)]
  simp [and_assoc]
theorem chk_28 (d s t mb mi ms md imm : Int) : (chk 28 d s t mb mi ms md imm = true) = (imm = 0 ∧ d = 0 ∧ Reg s ∧ t = 0 ∧ (mb = 0 ∧ mi = 0 ∧ ms = 0 ∧ md = 0)) := by
  have e : (fName 28).toList.isEmpty = false := by decide +kernel
  have h4 : has (fIs 28) 4 = false := by decide +kernel
  rw [chk_open, e, h4, num0 (f := fIs 28) (by decide +kernel) (by decide +kernel) (by decide +kernel), fldF (f := fIs 28) (k := 1) (by decide +kernel), fldT (f := fIs 28) (k := 2) (by decide +kernel), fldF (f := fIs 28) (k := 4) (by decide +kernel), memF (f := fIs 28) (by decide +kernel)]
  simp [and_assoc]
theorem chk_29 (d s t mb mi ms md imm : Int) : (chk 29 d s t mb mi ms md imm = true) = (imm = 0 ∧ Reg d ∧ s = 0 ∧ t = 0 ∧ (mb = 0 ∧ mi = 0 ∧ ms = 0 ∧ md = 0)) := by
  have e : (fName 29).toList.isEmpty = false := by decide +kernel
  have h4 : has (fIs 29) 4 = false := by decide +kernel
  rw [chk_open, e, h4, num0 (f := fIs 29) (by decide +kernel) (by decide +kernel) (by decide +kernel), fldT (f := fIs 29) (k := 1) (by decide +kernel), fldF (f := fIs 29) (k := 2) (by decide +kernel), fldF (f := fIs 29) (k := 4) (by decide +kernel), memF (f := fIs 29) (by decide +kernel)]
  simp [and_assoc]
theorem chk_30 (d s t mb mi ms md imm : Int) : (chk 30 d s t mb mi ms md imm = true) = ((-2147483648 ≤ imm ∧ imm ≤ 2147483647) ∧ d = 0 ∧ s = 0 ∧ t = 0 ∧ (mb = 0 ∧ mi = 0 ∧ ms = 0 ∧ md = 0)) := by
  have e : (fName 30).toList.isEmpty = false := by decide +kernel
  have h4 : has (fIs 30) 4 = false := by decide +kernel
  rw [chk_open, e, h4, num32 (f := fIs 30) (by decide +kernel) (by decide +kernel), fldF (f := fIs 30) (k := 1) (by decide +kernel), fldF (f := fIs 30) (k := 2) (by decide +kernel), fldF (f := fIs 30) (k := 4) (by decide +kernel), memF (f := fIs 30) (by decide +kernel)]
  simp [and_assoc]
theorem chk_31 (d s t mb mi ms md imm : Int) : (chk 31 d s t mb mi ms md imm = true) = ((-2147483648 ≤ imm ∧ imm ≤ 2147483647) ∧ d = 0 ∧ s = 0 ∧ t = 0 ∧ (mb = 0 ∧ mi = 0 ∧ ms = 0 ∧ md = 0)) := by
  have e : (fName 31).toList.isEmpty = false := by decide +kernel
  have h4 : has (fIs 31) 4 = false := by decide +kernel
  rw [chk_open, e, h4, num32 (f := fIs 31) (by decide +kernel) (by decide +kernel), fldF (f := fIs 31) (k := 1) (by decide +kernel), fldF (f := fIs 31) (k := 2) (by decide +kernel), fldF (f := fIs 31) (k := 4) (by decide +kernel), memF (f := fIs 31) (by decide +kernel)]
  simp [and_assoc]
theorem chk_32 (d s t mb mi ms md imm : Int) : (chk 32 d s t mb mi ms md imm = true) = ((-2147483648 ≤ imm ∧ imm ≤ 2147483647) ∧ d = 0 ∧ s = 0 ∧ t = 0 ∧ (mb = 0 ∧ mi = 0 ∧ ms = 0 ∧ md = 0)) := by
  have e : (fName 32).toList.isEmpty = false := by decide +kernel
  have h4 : has (fIs 32) 4 = false := by decide +kernel
  rw [chk_open, e, h4, num32 (f := fIs 32) (by decide +kernel) (by decide +kernel), fldF (f := fIs 32) (k := 1) (by decide +kernel), fldF (f := fIs 32) (k := 2) (by decide +kernel), fldF (f := fIs 32) (k := 4) (by decide +kernel), memF (f := fIs 32) (by decide +kernel)]
  simp [and_assoc]
theorem chk_33 (d s t mb mi ms md imm : Int) : (chk 33 d s t mb mi ms md imm = true) = (imm = 0 ∧ d = 0 ∧ s = 0 ∧ t = 0 ∧ (mb = 0 ∧ mi = 0 ∧ ms = 0 ∧ md = 0)) := by
  have e : (fName 33).toList.isEmpty = false := by decide +kernel
  have h4 : has (fIs 33) 4 = false := by decide +kernel
  rw [chk_open, e, h4, num0 (f := fIs 33) (by decide +kernel) (by decide +kernel) (by decide +kernel), fldF (f := fIs 33) (k := 1) (by decide +kernel), fldF (f := fIs 33) (k := 2) (by decide +kernel), fldF (f := fIs 33) (k := 4) (by decide +kernel), memF (f := fIs 33) (by decide +kernel)]
  simp [and_assoc]
attribute [local irreducible] placeL loR hiR rexI bothI littleL mulx1 mulx2 stackL jumpL
def PutS (op : Int) : Prop := ∀ (d s t mb mi ms md imm : Int) (w : World) (hd : -9223372036854775808 ≤ md ∧ md ≤ 9223372036854775807) (hi : -9223372036854775808 ≤ imm ∧ imm ≤ 9223372036854775807) (hc : chk op d s t mb mi ms md imm = true), Calls Try.prog 29 #[.agg #[.int .i64 op, .int .i64 d, .int .i64 s, .int .i64 t, .int .i64 mb, .int .i64 mi, .int .i64 ms, .int .i64 md, .int .i64 imm]] w fun e w' => e = .returned (.tuple #[.string (strB (encL op d s t mb mi ms md imm)), .int .i64 0]) ∧ Below w.heap.size w w'
theorem put_1 : PutS 1 := by
  intro d s t mb mi ms md imm w hd hi hc
  have e : encL 1 d s t mb mi ms md imm = [rexI s 0 d, 137, bothI s d] := rfl
  rw [e]
  refine inst_put 1 d s t mb mi ms md imm 137 0 61 _ w hd hi (by rw [hc]; rfl) (looks _ _ _ _ (fun r => by kernel_rfl) (fun r => by kernel_rfl)) (fun x y => Try.call61 x y) ?_
  rw [chk_1] at hc
  have h := hc
  clear hc e
  intro V
  exact two_any 137 0 1 d s t mb mi ms md imm V h.2.1 h.2.2.1
theorem put_2 : PutS 2 := by
  intro d s t mb mi ms md imm w hd hi hc
  have e : encL 2 d s t mb mi ms md imm = ([rexI 0 0 d, 184 + loR d] ++ littleL imm 8) := rfl
  rw [e]
  refine inst_put 2 d s t mb mi ms md imm 184 0 62 _ w hd hi (by rw [hc]; rfl) (looks _ _ _ _ (fun r => by kernel_rfl) (fun r => by kernel_rfl)) (fun x y => Try.call62 x y) ?_
  rw [chk_2] at hc
  have h := hc
  clear hc e
  intro V
  exact mwide_any 184 0 2 d s t mb mi ms md imm V h.2.1 (by omega) hi
theorem put_3 : PutS 3 := by
  intro d s t mb mi ms md imm w hd hi hc
  have e : encL 3 d s t mb mi ms md imm = ([rexI d mi mb, 139] ++ placeL d mb mi ms md) := rfl
  rw [e]
  refine inst_put 3 d s t mb mi ms md imm 139 0 63 _ w hd hi (by rw [hc]; rfl) (looks _ _ _ _ (fun r => by kernel_rfl) (fun r => by kernel_rfl)) (fun x y => Try.call63 x y) ?_
  rw [chk_3] at hc
  have h := hc
  clear hc e
  intro V
  exact mtoD_any 139 0 3 d s t mb mi ms md imm V h.2.1 h.2.2.2.2
theorem put_4 : PutS 4 := by
  intro d s t mb mi ms md imm w hd hi hc
  have e : encL 4 d s t mb mi ms md imm = ([rexI s mi mb, 137] ++ placeL s mb mi ms md) := rfl
  rw [e]
  refine inst_put 4 d s t mb mi ms md imm 137 0 64 _ w hd hi (by rw [hc]; rfl) (looks _ _ _ _ (fun r => by kernel_rfl) (fun r => by kernel_rfl)) (fun x y => Try.call64 x y) ?_
  rw [chk_4] at hc
  have h := hc
  clear hc e
  intro V
  exact mfromS_any 137 0 4 d s t mb mi ms md imm V h.2.2.1 h.2.2.2.2
theorem put_5 : PutS 5 := by
  intro d s t mb mi ms md imm w hd hi hc
  have e : encL 5 d s t mb mi ms md imm = ([rexI d mi mb, 141] ++ placeL d mb mi ms md) := rfl
  rw [e]
  refine inst_put 5 d s t mb mi ms md imm 141 0 63 _ w hd hi (by rw [hc]; rfl) (looks _ _ _ _ (fun r => by kernel_rfl) (fun r => by kernel_rfl)) (fun x y => Try.call63 x y) ?_
  rw [chk_5] at hc
  have h := hc
  clear hc e
  intro V
  exact mtoD_any 141 0 5 d s t mb mi ms md imm V h.2.1 h.2.2.2.2
theorem put_6 : PutS 6 := by
  intro d s t mb mi ms md imm w hd hi hc
  have e : encL 6 d s t mb mi ms md imm = [rexI s 0 d, 1, bothI s d] := rfl
  rw [e]
  refine inst_put 6 d s t mb mi ms md imm 1 0 61 _ w hd hi (by rw [hc]; rfl) (looks _ _ _ _ (fun r => by kernel_rfl) (fun r => by kernel_rfl)) (fun x y => Try.call61 x y) ?_
  rw [chk_6] at hc
  have h := hc
  clear hc e
  intro V
  exact two_any 1 0 6 d s t mb mi ms md imm V h.2.1 h.2.2.1
theorem put_7 : PutS 7 := by
  intro d s t mb mi ms md imm w hd hi hc
  have e : encL 7 d s t mb mi ms md imm = [rexI s 0 d, 17, bothI s d] := rfl
  rw [e]
  refine inst_put 7 d s t mb mi ms md imm 17 0 61 _ w hd hi (by rw [hc]; rfl) (looks _ _ _ _ (fun r => by kernel_rfl) (fun r => by kernel_rfl)) (fun x y => Try.call61 x y) ?_
  rw [chk_7] at hc
  have h := hc
  clear hc e
  intro V
  exact two_any 17 0 7 d s t mb mi ms md imm V h.2.1 h.2.2.1
theorem put_8 : PutS 8 := by
  intro d s t mb mi ms md imm w hd hi hc
  have e : encL 8 d s t mb mi ms md imm = [rexI s 0 d, 41, bothI s d] := rfl
  rw [e]
  refine inst_put 8 d s t mb mi ms md imm 41 0 61 _ w hd hi (by rw [hc]; rfl) (looks _ _ _ _ (fun r => by kernel_rfl) (fun r => by kernel_rfl)) (fun x y => Try.call61 x y) ?_
  rw [chk_8] at hc
  have h := hc
  clear hc e
  intro V
  exact two_any 41 0 8 d s t mb mi ms md imm V h.2.1 h.2.2.1
theorem put_9 : PutS 9 := by
  intro d s t mb mi ms md imm w hd hi hc
  have e : encL 9 d s t mb mi ms md imm = [rexI s 0 d, 25, bothI s d] := rfl
  rw [e]
  refine inst_put 9 d s t mb mi ms md imm 25 0 61 _ w hd hi (by rw [hc]; rfl) (looks _ _ _ _ (fun r => by kernel_rfl) (fun r => by kernel_rfl)) (fun x y => Try.call61 x y) ?_
  rw [chk_9] at hc
  have h := hc
  clear hc e
  intro V
  exact two_any 25 0 9 d s t mb mi ms md imm V h.2.1 h.2.2.1
theorem put_10 : PutS 10 := by
  intro d s t mb mi ms md imm w hd hi hc
  have e : encL 10 d s t mb mi ms md imm = [rexI s 0 d, 33, bothI s d] := rfl
  rw [e]
  refine inst_put 10 d s t mb mi ms md imm 33 0 61 _ w hd hi (by rw [hc]; rfl) (looks _ _ _ _ (fun r => by kernel_rfl) (fun r => by kernel_rfl)) (fun x y => Try.call61 x y) ?_
  rw [chk_10] at hc
  have h := hc
  clear hc e
  intro V
  exact two_any 33 0 10 d s t mb mi ms md imm V h.2.1 h.2.2.1
theorem put_11 : PutS 11 := by
  intro d s t mb mi ms md imm w hd hi hc
  have e : encL 11 d s t mb mi ms md imm = [rexI s 0 d, 9, bothI s d] := rfl
  rw [e]
  refine inst_put 11 d s t mb mi ms md imm 9 0 61 _ w hd hi (by rw [hc]; rfl) (looks _ _ _ _ (fun r => by kernel_rfl) (fun r => by kernel_rfl)) (fun x y => Try.call61 x y) ?_
  rw [chk_11] at hc
  have h := hc
  clear hc e
  intro V
  exact two_any 9 0 11 d s t mb mi ms md imm V h.2.1 h.2.2.1
theorem put_12 : PutS 12 := by
  intro d s t mb mi ms md imm w hd hi hc
  have e : encL 12 d s t mb mi ms md imm = [rexI s 0 d, 49, bothI s d] := rfl
  rw [e]
  refine inst_put 12 d s t mb mi ms md imm 49 0 61 _ w hd hi (by rw [hc]; rfl) (looks _ _ _ _ (fun r => by kernel_rfl) (fun r => by kernel_rfl)) (fun x y => Try.call61 x y) ?_
  rw [chk_12] at hc
  have h := hc
  clear hc e
  intro V
  exact two_any 49 0 12 d s t mb mi ms md imm V h.2.1 h.2.2.1
theorem put_13 : PutS 13 := by
  intro d s t mb mi ms md imm w hd hi hc
  have e : encL 13 d s t mb mi ms md imm = [rexI s 0 d, 57, bothI s d] := rfl
  rw [e]
  refine inst_put 13 d s t mb mi ms md imm 57 0 61 _ w hd hi (by rw [hc]; rfl) (looks _ _ _ _ (fun r => by kernel_rfl) (fun r => by kernel_rfl)) (fun x y => Try.call61 x y) ?_
  rw [chk_13] at hc
  have h := hc
  clear hc e
  intro V
  exact two_any 57 0 13 d s t mb mi ms md imm V h.2.1 h.2.2.1
theorem put_14 : PutS 14 := by
  intro d s t mb mi ms md imm w hd hi hc
  have e : encL 14 d s t mb mi ms md imm = [rexI s 0 d, 133, bothI s d] := rfl
  rw [e]
  refine inst_put 14 d s t mb mi ms md imm 133 0 61 _ w hd hi (by rw [hc]; rfl) (looks _ _ _ _ (fun r => by kernel_rfl) (fun r => by kernel_rfl)) (fun x y => Try.call61 x y) ?_
  rw [chk_14] at hc
  have h := hc
  clear hc e
  intro V
  exact two_any 133 0 14 d s t mb mi ms md imm V h.2.1 h.2.2.1
theorem put_15 : PutS 15 := by
  intro d s t mb mi ms md imm w hd hi hc
  have e : encL 15 d s t mb mi ms md imm = ([rexI 0 0 d, 129, bothI 0 d] ++ littleL imm 4) := rfl
  rw [e]
  refine inst_put 15 d s t mb mi ms md imm 129 0 65 _ w hd hi (by rw [hc]; rfl) (looks _ _ _ _ (fun r => by kernel_rfl) (fun r => by kernel_rfl)) (fun x y => Try.call65 x y) ?_
  rw [chk_15] at hc
  have h := hc
  clear hc e
  intro V
  exact mnumber_any 129 0 15 d s t mb mi ms md imm V h.2.1 (by omega) hi
theorem put_16 : PutS 16 := by
  intro d s t mb mi ms md imm w hd hi hc
  have e : encL 16 d s t mb mi ms md imm = ([rexI 0 0 d, 129, bothI 4 d] ++ littleL imm 4) := rfl
  rw [e]
  refine inst_put 16 d s t mb mi ms md imm 129 4 65 _ w hd hi (by rw [hc]; rfl) (looks _ _ _ _ (fun r => by kernel_rfl) (fun r => by kernel_rfl)) (fun x y => Try.call65 x y) ?_
  rw [chk_16] at hc
  have h := hc
  clear hc e
  intro V
  exact mnumber_any 129 4 16 d s t mb mi ms md imm V h.2.1 (by omega) hi
theorem put_17 : PutS 17 := by
  intro d s t mb mi ms md imm w hd hi hc
  have e : encL 17 d s t mb mi ms md imm = ([rexI 0 0 d, 129, bothI 5 d] ++ littleL imm 4) := rfl
  rw [e]
  refine inst_put 17 d s t mb mi ms md imm 129 5 65 _ w hd hi (by rw [hc]; rfl) (looks _ _ _ _ (fun r => by kernel_rfl) (fun r => by kernel_rfl)) (fun x y => Try.call65 x y) ?_
  rw [chk_17] at hc
  have h := hc
  clear hc e
  intro V
  exact mnumber_any 129 5 17 d s t mb mi ms md imm V h.2.1 (by omega) hi
theorem put_18 : PutS 18 := by
  intro d s t mb mi ms md imm w hd hi hc
  have e : encL 18 d s t mb mi ms md imm = ([rexI 0 0 d, 129, bothI 7 d] ++ littleL imm 4) := rfl
  rw [e]
  refine inst_put 18 d s t mb mi ms md imm 129 7 65 _ w hd hi (by rw [hc]; rfl) (looks _ _ _ _ (fun r => by kernel_rfl) (fun r => by kernel_rfl)) (fun x y => Try.call65 x y) ?_
  rw [chk_18] at hc
  have h := hc
  clear hc e
  intro V
  exact mnumber_any 129 7 18 d s t mb mi ms md imm V h.2.1 (by omega) hi
theorem put_19 : PutS 19 := by
  intro d s t mb mi ms md imm w hd hi hc
  have e : encL 19 d s t mb mi ms md imm = [196, mulx1 d t, mulx2 s, 246, bothI d t] := rfl
  rw [e]
  refine inst_put 19 d s t mb mi ms md imm 196 246 66 _ w hd hi (by rw [hc]; rfl) (looks _ _ _ _ (fun r => by kernel_rfl) (fun r => by kernel_rfl)) (fun x y => Try.call66 x y) ?_
  rw [chk_19] at hc
  have h := hc
  clear hc e
  intro V
  exact mulx_any 196 246 19 d s t mb mi ms md imm V h.2.1 h.2.2.2.1 h.2.2.1
theorem put_20 : PutS 20 := by
  intro d s t mb mi ms md imm w hd hi hc
  have e : encL 20 d s t mb mi ms md imm = [102, rexI d 0 s, 15, 56, 246, bothI d s] := rfl
  rw [e]
  refine inst_put 20 d s t mb mi ms md imm 102 246 67 _ w hd hi (by rw [hc]; rfl) (looks _ _ _ _ (fun r => by kernel_rfl) (fun r => by kernel_rfl)) (fun x y => Try.call67 x y) ?_
  rw [chk_20] at hc
  have h := hc
  clear hc e
  intro V
  exact chain_any 102 246 20 d s t mb mi ms md imm V h.2.1 h.2.2.1
theorem put_21 : PutS 21 := by
  intro d s t mb mi ms md imm w hd hi hc
  have e : encL 21 d s t mb mi ms md imm = [243, rexI d 0 s, 15, 56, 246, bothI d s] := rfl
  rw [e]
  refine inst_put 21 d s t mb mi ms md imm 243 246 67 _ w hd hi (by rw [hc]; rfl) (looks _ _ _ _ (fun r => by kernel_rfl) (fun r => by kernel_rfl)) (fun x y => Try.call67 x y) ?_
  rw [chk_21] at hc
  have h := hc
  clear hc e
  intro V
  exact chain_any 243 246 21 d s t mb mi ms md imm V h.2.1 h.2.2.1
theorem put_22 : PutS 22 := by
  intro d s t mb mi ms md imm w hd hi hc
  have e : encL 22 d s t mb mi ms md imm = [rexI 0 0 d, 247, bothI 3 d] := rfl
  rw [e]
  refine inst_put 22 d s t mb mi ms md imm 247 3 68 _ w hd hi (by rw [hc]; rfl) (looks _ _ _ _ (fun r => by kernel_rfl) (fun r => by kernel_rfl)) (fun x y => Try.call68 x y) ?_
  rw [chk_22] at hc
  have h := hc
  clear hc e
  intro V
  exact one_any 247 3 22 d s t mb mi ms md imm V h.2.1 (by omega)
theorem put_23 : PutS 23 := by
  intro d s t mb mi ms md imm w hd hi hc
  have e : encL 23 d s t mb mi ms md imm = [rexI 0 0 d, 247, bothI 2 d] := rfl
  rw [e]
  refine inst_put 23 d s t mb mi ms md imm 247 2 68 _ w hd hi (by rw [hc]; rfl) (looks _ _ _ _ (fun r => by kernel_rfl) (fun r => by kernel_rfl)) (fun x y => Try.call68 x y) ?_
  rw [chk_23] at hc
  have h := hc
  clear hc e
  intro V
  exact one_any 247 2 23 d s t mb mi ms md imm V h.2.1 (by omega)
theorem put_24 : PutS 24 := by
  intro d s t mb mi ms md imm w hd hi hc
  have e : encL 24 d s t mb mi ms md imm = ([rexI 0 0 d, 193, bothI 4 d] ++ [imm]) := rfl
  rw [e]
  refine inst_put 24 d s t mb mi ms md imm 193 4 69 _ w hd hi (by rw [hc]; rfl) (looks _ _ _ _ (fun r => by kernel_rfl) (fun r => by kernel_rfl)) (fun x y => Try.call69 x y) ?_
  rw [chk_24] at hc
  have h := hc
  clear hc e
  intro V
  exact mshift_any 193 4 24 d s t mb mi ms md imm V h.2.1 (by omega) (by have := h.1; omega)
theorem put_25 : PutS 25 := by
  intro d s t mb mi ms md imm w hd hi hc
  have e : encL 25 d s t mb mi ms md imm = ([rexI 0 0 d, 193, bothI 5 d] ++ [imm]) := rfl
  rw [e]
  refine inst_put 25 d s t mb mi ms md imm 193 5 69 _ w hd hi (by rw [hc]; rfl) (looks _ _ _ _ (fun r => by kernel_rfl) (fun r => by kernel_rfl)) (fun x y => Try.call69 x y) ?_
  rw [chk_25] at hc
  have h := hc
  clear hc e
  intro V
  exact mshift_any 193 5 25 d s t mb mi ms md imm V h.2.1 (by omega) (by have := h.1; omega)
theorem put_26 : PutS 26 := by
  intro d s t mb mi ms md imm w hd hi hc
  have e : encL 26 d s t mb mi ms md imm = [rexI d 0 s, 15, 66, bothI d s] := rfl
  rw [e]
  refine inst_put 26 d s t mb mi ms md imm 15 66 70 _ w hd hi (by rw [hc]; rfl) (looks _ _ _ _ (fun r => by kernel_rfl) (fun r => by kernel_rfl)) (fun x y => Try.call70 x y) ?_
  rw [chk_26] at hc
  have h := hc
  clear hc e
  intro V
  exact move_any 15 66 26 d s t mb mi ms md imm V h.2.1 h.2.2.1
theorem put_27 : PutS 27 := by
  intro d s t mb mi ms md imm w hd hi hc
  have e : encL 27 d s t mb mi ms md imm = [rexI d 0 s, 15, 69, bothI d s] := rfl
  rw [e]
  refine inst_put 27 d s t mb mi ms md imm 15 69 70 _ w hd hi (by rw [hc]; rfl) (looks _ _ _ _ (fun r => by kernel_rfl) (fun r => by kernel_rfl)) (fun x y => Try.call70 x y) ?_
  rw [chk_27] at hc
  have h := hc
  clear hc e
  intro V
  exact move_any 15 69 27 d s t mb mi ms md imm V h.2.1 h.2.2.1
theorem put_28 : PutS 28 := by
  intro d s t mb mi ms md imm w hd hi hc
  have e : encL 28 d s t mb mi ms md imm = stackL 80 s := rfl
  rw [e]
  refine inst_put 28 d s t mb mi ms md imm 80 0 71 _ w hd hi (by rw [hc]; rfl) (looks _ _ _ _ (fun r => by kernel_rfl) (fun r => by kernel_rfl)) (fun x y => Try.call71 x y) ?_
  rw [chk_28] at hc
  have h := hc
  clear hc e
  intro V
  exact mstackS_any 80 0 28 d s t mb mi ms md imm V h.2.2.1 h.2.1 (by omega)
theorem put_29 (d s t mb mi ms md imm : Int) (w : World) (hd : -9223372036854775808 ≤ md ∧ md ≤ 9223372036854775807) (hi : -9223372036854775808 ≤ imm ∧ imm ≤ 9223372036854775807) (hc : chk 29 d s t mb mi ms md imm = true) :
    Calls Try.prog 29 #[.agg #[.int .i64 29, .int .i64 d, .int .i64 s, .int .i64 t, .int .i64 mb, .int .i64 mi, .int .i64 ms, .int .i64 md, .int .i64 imm]] w
      fun e w' => e = .returned (.tuple #[.string (strB (encL 29 d s t mb mi ms md imm)), .int .i64 0]) ∧ Below w.heap.size w w' := by
  have e : encL 29 d s t mb mi ms md imm = stackL 88 d := rfl
  rw [e]
  refine inst_put 29 d s t mb mi ms md imm 88 0 71 _ w hd hi (by rw [hc]; rfl) (looks _ _ _ _ (fun r => by kernel_rfl) (fun r => by kernel_rfl)) (fun x y => Try.call71 x y) ?_
  rw [chk_29] at hc
  have h := hc
  clear hc e
  intro V
  exact mstackD_any 88 0 29 d s t mb mi ms md imm V h.2.1 h.2.2.1 (by omega)
theorem put_30 : PutS 30 := by
  intro d s t mb mi ms md imm w hd hi hc
  have e : encL 30 d s t mb mi ms md imm = jumpL 233 0 imm := rfl
  rw [e]
  refine inst_put 30 d s t mb mi ms md imm 233 0 72 _ w hd hi (by rw [hc]; rfl) (looks _ _ _ _ (fun r => by kernel_rfl) (fun r => by kernel_rfl)) (fun x y => Try.call72 x y) ?_
  rw [chk_30] at hc
  have h := hc
  clear hc e
  intro V
  exact mjump_any 233 0 30 d s t mb mi ms md imm V hi
theorem put_31 : PutS 31 := by
  intro d s t mb mi ms md imm w hd hi hc
  have e : encL 31 d s t mb mi ms md imm = jumpL 15 133 imm := rfl
  rw [e]
  refine inst_put 31 d s t mb mi ms md imm 15 133 72 _ w hd hi (by rw [hc]; rfl) (looks _ _ _ _ (fun r => by kernel_rfl) (fun r => by kernel_rfl)) (fun x y => Try.call72 x y) ?_
  rw [chk_31] at hc
  have h := hc
  clear hc e
  intro V
  exact mjump_any 15 133 31 d s t mb mi ms md imm V hi
theorem put_32 : PutS 32 := by
  intro d s t mb mi ms md imm w hd hi hc
  have e : encL 32 d s t mb mi ms md imm = jumpL 15 130 imm := rfl
  rw [e]
  refine inst_put 32 d s t mb mi ms md imm 15 130 72 _ w hd hi (by rw [hc]; rfl) (looks _ _ _ _ (fun r => by kernel_rfl) (fun r => by kernel_rfl)) (fun x y => Try.call72 x y) ?_
  rw [chk_32] at hc
  have h := hc
  clear hc e
  intro V
  exact mjump_any 15 130 32 d s t mb mi ms md imm V hi
theorem put_33 : PutS 33 := by
  intro d s t mb mi ms md imm w hd hi hc
  have e : encL 33 d s t mb mi ms md imm = [195] := rfl
  rw [e]
  refine inst_put 33 d s t mb mi ms md imm 195 0 73 _ w hd hi (by rw [hc]; rfl) (looks _ _ _ _ (fun r => by kernel_rfl) (fun r => by kernel_rfl)) (fun x y => Try.call73 x y) ?_
  rw [chk_33] at hc
  have h := hc
  clear hc e
  intro V
  exact mret_any 195 0 33 d s t mb mi ms md imm V
def outE (op d s t mb mi ms md imm : Int) : ByteArray := if chk op d s t mb mi ms md imm = true then strB (encL op d s t mb mi ms md imm) else ⟨#[]⟩
theorem einst_any (op d s t mb mi ms md imm : Int) (w : World) (hd : -9223372036854775808 ≤ md ∧ md ≤ 9223372036854775807) (hi : -9223372036854775808 ≤ imm ∧ imm ≤ 9223372036854775807) :
    Calls Try.prog 29 #[.agg #[.int .i64 op, .int .i64 d, .int .i64 s, .int .i64 t, .int .i64 mb, .int .i64 mi, .int .i64 ms, .int .i64 md, .int .i64 imm]] w
      fun e w' => e = .returned (.tuple #[.string (outE op d s t mb mi ms md imm), .int .i64 (errOf (chk op d s t mb mi ms md imm))]) ∧ Below w.heap.size w w' := by
  unfold outE
  by_cases hc : chk op d s t mb mi ms md imm = true
  · rw [if_pos hc, show errOf (chk op d s t mb mi ms md imm) = 0 by rw [hc]; rfl]
    have hr := chk_range hc
    have : op = 1 ∨ op = 2 ∨ op = 3 ∨ op = 4 ∨ op = 5 ∨ op = 6 ∨ op = 7 ∨ op = 8 ∨ op = 9 ∨ op = 10 ∨ op = 11 ∨ op = 12 ∨ op = 13 ∨ op = 14 ∨ op = 15 ∨ op = 16 ∨ op = 17 ∨ op = 18 ∨ op = 19 ∨ op = 20 ∨ op = 21 ∨ op = 22 ∨ op = 23 ∨ op = 24 ∨ op = 25 ∨ op = 26 ∨ op = 27 ∨ op = 28 ∨ op = 29 ∨ op = 30 ∨ op = 31 ∨ op = 32 ∨ op = 33 := by omega
    rcases this with rfl | rfl | rfl | rfl | rfl | rfl | rfl | rfl | rfl | rfl | rfl | rfl | rfl | rfl | rfl | rfl | rfl | rfl | rfl | rfl | rfl | rfl | rfl | rfl | rfl | rfl | rfl | rfl | rfl | rfl | rfl | rfl | rfl
    · exact put_1 d s t mb mi ms md imm w hd hi hc
    · exact put_2 d s t mb mi ms md imm w hd hi hc
    · exact put_3 d s t mb mi ms md imm w hd hi hc
    · exact put_4 d s t mb mi ms md imm w hd hi hc
    · exact put_5 d s t mb mi ms md imm w hd hi hc
    · exact put_6 d s t mb mi ms md imm w hd hi hc
    · exact put_7 d s t mb mi ms md imm w hd hi hc
    · exact put_8 d s t mb mi ms md imm w hd hi hc
    · exact put_9 d s t mb mi ms md imm w hd hi hc
    · exact put_10 d s t mb mi ms md imm w hd hi hc
    · exact put_11 d s t mb mi ms md imm w hd hi hc
    · exact put_12 d s t mb mi ms md imm w hd hi hc
    · exact put_13 d s t mb mi ms md imm w hd hi hc
    · exact put_14 d s t mb mi ms md imm w hd hi hc
    · exact put_15 d s t mb mi ms md imm w hd hi hc
    · exact put_16 d s t mb mi ms md imm w hd hi hc
    · exact put_17 d s t mb mi ms md imm w hd hi hc
    · exact put_18 d s t mb mi ms md imm w hd hi hc
    · exact put_19 d s t mb mi ms md imm w hd hi hc
    · exact put_20 d s t mb mi ms md imm w hd hi hc
    · exact put_21 d s t mb mi ms md imm w hd hi hc
    · exact put_22 d s t mb mi ms md imm w hd hi hc
    · exact put_23 d s t mb mi ms md imm w hd hi hc
    · exact put_24 d s t mb mi ms md imm w hd hi hc
    · exact put_25 d s t mb mi ms md imm w hd hi hc
    · exact put_26 d s t mb mi ms md imm w hd hi hc
    · exact put_27 d s t mb mi ms md imm w hd hi hc
    · exact put_28 d s t mb mi ms md imm w hd hi hc
    · exact put_29 d s t mb mi ms md imm w hd hi hc
    · exact put_30 d s t mb mi ms md imm w hd hi hc
    · exact put_31 d s t mb mi ms md imm w hd hi hc
    · exact put_32 d s t mb mi ms md imm w hd hi hc
    · exact put_33 d s t mb mi ms md imm w hd hi hc
  · rw [if_neg hc]
    refine inst_err op d s t mb mi ms md imm w hd hi ?_
    rw [show chk op d s t mb mi ms md imm = false by simpa using hc]; rfl
end Go.Proofs.Ytbcaelhchmoigaa
