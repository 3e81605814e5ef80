/- encode.Inst (layer 6): the instruction is checked, its way is looked up, its bytes are put. -/
import Derived.Test.YtakmpnmmcjnecaaMethJ
import Derived.Test.YtakmpnmmcjnecaaWays
import Derived.Laws.BytesString
import Derived.Laws.EntriesVeiled
import Derived.Shelf.Abstract
namespace Go.Proofs.Ytakmpnmmcjnecaa
open Go.RowKit Calm MapRun

/-! A string of a row of bytes -/
def strB (bs : List Int) : ByteArray := bs.foldl (fun r n => r.push (UInt8.ofNat n.toNat)) ByteArray.empty
theorem conv_str {w : World} {B : Nat} {v : Value} {bs : List Int} (h : IsB w B v bs) : (convert 70 9 v).run Try.prog w = .ok (.string (strB bs)) w := by
  obtain ⟨hl, hv⟩ := h
  rcases hv with ⟨rfl, hn⟩ | ⟨g, cap, cur, rfl, hg, hh, hnc, hcm, hcs, htk⟩
  · have hb : bs = [] := by cases bs with | nil => rfl | cons _ _ => simp at hn
    subst hb
    rw [run_convert_bytes_string w 70 9 5 none 0 0 Try.underlying70 Try.underlying5 Try.underlying9]
    rfl
  · rw [run_convert_bytes_string w 70 9 5 _ _ _ Try.underlying70 Try.underlying5 Try.underlying9]
    refine run_bytesToString w ⟨g, 0, none⟩ bs.length cap bs ?_
    have := run_loadCells_list (P := Try.prog) (w := w) ⟨g, 0, none⟩ (bs.map (Value.int .u8)) ?_
    · rw [List.length_map] at this; exact this
    · intro j u hu
      have e : (⟨g, 0, none⟩ : Addr).add j = ⟨g, j, none⟩ := by unfold Addr.add; split <;> simp_all
      rw [e]
      have hj : j < bs.length := by
        rcases Nat.lt_or_ge j bs.length with hlt | hge
        · exact hlt
        · rw [List.getElem?_eq_none (by simpa using hge)] at hu; simp at hu
      unfold World.cell?
      rw [hh]
      simp only [Option.isSome_none, Bool.false_eq_true, if_false]
      rw [← htk, List.getElem?_take, if_pos (by omega)] at hu
      rw [← Array.getElem?_toList]; exact hu

/-! A look-up in a map that lies anywhere -/
def gcalm {α : Type} (P : Program) : Sem α → Array MapEntry → Nat → List Nat → Option (α × List Nat)
  | .pure a, _, _, l => some (a, l)
  | .program k, es, c, l => gcalm P (k P) es c l
  | .mark _ k, es, c, l => gcalm P k es c l
  | .getObj r' k, es, c, l => gcalm P (k (.map es c)) es c (r' :: l)
  | _, _, _, _ => none
theorem gcalm_asks {α : Type} {P : Program} : ∀ (s : Sem α) {es : Array MapEntry} {c : Nat} {l : List Nat} {x : α × List Nat}, gcalm P s es c l = some x → ∀ y ∈ l, y ∈ x.2
  | .pure a, es, c, l, x, h, y, hy => by simp only [gcalm, Option.some.injEq] at h; subst h; exact hy
  | .program k, es, c, l, x, h, y, hy => gcalm_asks (k P) h y hy
  | .mark _ k, es, c, l, x, h, y, hy => gcalm_asks k h y hy
  | .getObj r k, es, c, l, x, h, y, hy => gcalm_asks (k (.map es c)) h y (List.mem_cons_of_mem _ hy)
  | .setObj _ _ _, _, _, _, _, h, _, _ => by simp [gcalm] at h
  | .load .., _, _, _, _, h, _, _ => by simp [gcalm] at h
  | .store .., _, _, _, _, h, _, _ => by simp [gcalm] at h
  | .new .., _, _, _, _, h, _, _ => by simp [gcalm] at h
  | .shape .., _, _, _, _, h, _, _ => by simp [gcalm] at h
  | .freeze .., _, _, _, _, h, _, _ => by simp [gcalm] at h
  | .frozen .., _, _, _, _, h, _, _ => by simp [gcalm] at h
  | .choose .., _, _, _, _, h, _, _ => by simp [gcalm] at h
  | .sys .., _, _, _, _, h, _, _ => by simp [gcalm] at h
  | .halt _, _, _, _, _, h, _, _ => by simp [gcalm] at h
theorem run_gcalm {α : Type} {P : Program} (w : World) {r : Nat} : ∀ (s : Sem α) {es : Array MapEntry} {c : Nat} {l : List Nat} {x : α × List Nat}, gcalm P s es c l = some x → (∀ y ∈ x.2, y = r) → w.heap[r]? = some (.map es c) → s.run P w = .ok x.1 w
  | .pure a, es, c, l, x, h, _, _ => by simp only [gcalm, Option.some.injEq] at h; subst h; rfl
  | .program k, es, c, l, x, h, hy, hr => run_gcalm w (k P) h hy hr
  | .mark _ k, es, c, l, x, h, hy, hr => run_gcalm w k h hy hr
  | .getObj r' k, es, c, l, x, h, hy, hr => by
    have h' : gcalm P (k (.map es c)) es c (r' :: l) = some x := h
    have e : r' = r := hy r' (gcalm_asks _ h' r' List.mem_cons_self)
    subst e
    have := run_gcalm w (k (.map es c)) h' hy hr
    rw [Sem.run, hr]; exact this
  | .setObj _ _ _, _, _, _, _, h, _, _ => by simp [gcalm] at h
  | .load .., _, _, _, _, h, _, _ => by simp [gcalm] at h
  | .store .., _, _, _, _, h, _, _ => by simp [gcalm] at h
  | .new .., _, _, _, _, h, _, _ => by simp [gcalm] at h
  | .shape .., _, _, _, _, h, _, _ => by simp [gcalm] at h
  | .freeze .., _, _, _, _, h, _, _ => by simp [gcalm] at h
  | .frozen .., _, _, _, _, h, _, _ => by simp [gcalm] at h
  | .choose .., _, _, _, _, h, _, _ => by simp [gcalm] at h
  | .sys .., _, _, _, _, h, _, _ => by simp [gcalm] at h
  | .halt _, _, _, _, _, h, _, _ => by simp [gcalm] at h
def Looks (op c m : Int) (f : Nat) : Prop := ∀ (V : World) (r : Nat), V.heap[r]? = some (.map waysE 33) →
    (Instr.lookup 68 (.map (some r)) (.int .i64 op) false).run Try.prog V = .ok (.agg #[.int .u8 c, .int .u8 m, fnV f]) V
theorem looks (op c m : Int) (f : Nat) (h1 : ∀ r : Nat, (gcalm Try.prog (Instr.lookup 68 (.map (some r)) (.int .i64 op) false) waysE 33 []).map (fun y => y.2) = some [r])
    (h2 : ∀ r : Nat, (gcalm Try.prog (Instr.lookup 68 (.map (some r)) (.int .i64 op) false) waysE 33 []).map (fun y => y.1) = some (.agg #[.int .u8 c, .int .u8 m, fnV f])) : Looks op c m f := by
  intro V r hr
  have h1 := h1 r
  have h2 := h2 r
  cases e : gcalm Try.prog (Instr.lookup 68 (.map (some r)) (.int .i64 op) false) waysE 33 [] with
  | none => rw [e] at h1; simp at h1
  | some y =>
    rw [e] at h1 h2
    simp only [Option.map_some, Option.some.injEq] at h1 h2
    have := run_gcalm V _ e (fun z hz => by rw [h1] at hz; simpa using hz) hr
    rw [this, h2]
theorem looks_ret : Looks 33 195 0 60 := looks _ _ _ _ (fun r => by kernel_rfl) (fun r => by kernel_rfl)
attribute [local irreducible] waysE
set_option maxHeartbeats 4000000 in
set_option maxRecDepth 100000 in
theorem inst_put (op d s t mb mi ms md imm c m : Int) (f : Nat) (bs : List Int) (w : World)
    (hd : -9223372036854775808 ≤ md ∧ md ≤ 9223372036854775807) (hi : -9223372036854775808 ≤ imm ∧ imm ≤ 9223372036854775807)
    (hk : (errOf (chk op d s t mb mi ms md imm) != 0) = false) (hlook : Looks op c m f) (hent : ∀ (args : Array Value) (w : World), (callFunc f args).run Try.prog w = .ok (.enter f args) w)
    (hcall : ∀ V : World, Calls Try.prog f #[.agg #[.int .u8 c, .int .u8 m], .agg #[.int .i64 op, .int .i64 d, .int .i64 s, .int .i64 t, .int .i64 mb, .int .i64 mi, .int .i64 ms, .int .i64 md, .int .i64 imm]] V
      fun e w' => RetB V.heap.size bs e w' ∧ Below V.heap.size V w') :
    Calls Try.prog 17 #[.agg #[.int .i64 op, .int .i64 d, .int .i64 s, .int .i64 t, .int .i64 mb, .int .i64 mi, .int .i64 ms, .int .i64 md, .int .i64 imm]] w
      fun e w' => e = .returned (.tuple #[.string (strB bs), .int .i64 0]) ∧ Below w.heap.size w w' := by
  go_enter Try.func17, Try.ntmps17
  go_wp2_with (go_at_call 37; refine (check_any op d s t mb mi ms md imm _ hd hi).mono ?_; rintro e w1 ⟨rfl, hb1⟩)
  have f_op : w1.cell? ⟨w.heap.size, 0, none⟩ = some (.int .i64 op) := by
    refine cellk hb1 (by simp) ?_
    go_simp
  have f_d : w1.cell? ⟨w.heap.size, 1, none⟩ = some (.int .i64 d) := by
    refine cellk hb1 (by simp) ?_
    go_simp
  have f_s : w1.cell? ⟨w.heap.size, 2, none⟩ = some (.int .i64 s) := by
    refine cellk hb1 (by simp) ?_
    go_simp
  have f_t : w1.cell? ⟨w.heap.size, 3, none⟩ = some (.int .i64 t) := by
    refine cellk hb1 (by simp) ?_
    go_simp
  have f_mb : w1.cell? ⟨w.heap.size, 4, none⟩ = some (.int .i64 mb) := by
    refine cellk hb1 (by simp) ?_
    go_simp
  have f_mi : w1.cell? ⟨w.heap.size, 5, none⟩ = some (.int .i64 mi) := by
    refine cellk hb1 (by simp) ?_
    go_simp
  have f_ms : w1.cell? ⟨w.heap.size, 6, none⟩ = some (.int .i64 ms) := by
    refine cellk hb1 (by simp) ?_
    go_simp
  have f_md : w1.cell? ⟨w.heap.size, 7, none⟩ = some (.int .i64 md) := by
    refine cellk hb1 (by simp) ?_
    go_simp
  have f_imm : w1.cell? ⟨w.heap.size, 8, none⟩ = some (.int .i64 imm) := by
    refine cellk hb1 (by simp) ?_
    go_simp
  have hB : Below w.heap.size w w1 := (bal (Below.refl _ _) _).trans (hb1.mono (by simp))
  have hz : w.heap.size < w1.heap.size := by have := hb1.size; simp at this; omega
  clear hb1
  have hl2 : ∀ o o2 : Obj, ((w1.alloc o).alloc o2).heap[w1.heap.size]? = some o := by
    intro o o2; show ((w1.heap.push o).push o2)[w1.heap.size]? = _; rw [Array.getElem?_push, if_neg (by simp), Array.getElem?_push, if_pos rfl]
  have hl3 : ∀ o o2 : Obj, ((w1.alloc o).alloc o2).heap[w1.heap.size + 1]? = some o2 := by
    intro o o2; show ((w1.heap.push o).push o2)[w1.heap.size + 1]? = _; rw [Array.getElem?_push, if_pos (by simp)]
  have look1 : (Instr.lookup 68 (.map (some (w1.heap.size))) (.int .i64 op) false).run Try.prog (w1.alloc (.map waysE 33)) = .ok (.agg #[.int .u8 c, .int .u8 m, .func (.func f) #[] #[]]) (w1.alloc (.map waysE 33)) := hlook _ _ (heap_last _ _)
  have look2 : (Instr.lookup 68 (.map (some (w1.heap.size))) (.int .i64 op) false).run Try.prog ((w1.alloc (.map waysE 33)).alloc (Obj.cells #[Value.int IntKind.u8 0, Value.int IntKind.u8 0, Value.nilFunc] 67)) = .ok (.agg #[.int .u8 c, .int .u8 m, .func (.func f) #[] #[]]) ((w1.alloc (.map waysE 33)).alloc (Obj.cells #[Value.int IntKind.u8 0, Value.int IntKind.u8 0, Value.nilFunc] 67)) := hlook _ _ (hl2 _ _)
  have look3 : (Instr.lookup 68 (.map (some (w1.heap.size + 1))) (.int .i64 op) false).run Try.prog ((w1.alloc (Obj.cells #[Value.int IntKind.u8 0, Value.int IntKind.u8 0, Value.nilFunc] 67)).alloc (.map waysE 33)) = .ok (.agg #[.int .u8 c, .int .u8 m, .func (.func f) #[] #[]]) ((w1.alloc (Obj.cells #[Value.int IntKind.u8 0, Value.int IntKind.u8 0, Value.nilFunc] 67)).alloc (.map waysE 33)) := hlook _ _ (hl3 _ _)
  have look4 : (Instr.lookup 68 (.map (some (w1.heap.size))) (.int .i64 op) false).run Try.prog (w1.alloc (.map waysE 33)).drew = .ok (.agg #[.int .u8 c, .int .u8 m, .func (.func f) #[] #[]]) (w1.alloc (.map waysE 33)).drew := hlook _ _ (heap_last _ _)
  have look5 : (Instr.lookup 68 (.map (some (w1.heap.size))) (.int .i64 op) false).run Try.prog ((w1.alloc (.map waysE 33)).alloc (Obj.cells #[Value.int IntKind.u8 0, Value.int IntKind.u8 0, Value.nilFunc] 67)).drew = .ok (.agg #[.int .u8 c, .int .u8 m, .func (.func f) #[] #[]]) ((w1.alloc (.map waysE 33)).alloc (Obj.cells #[Value.int IntKind.u8 0, Value.int IntKind.u8 0, Value.nilFunc] 67)).drew := hlook _ _ (hl2 _ _)
  have look6 : (Instr.lookup 68 (.map (some (w1.heap.size + 1))) (.int .i64 op) false).run Try.prog ((w1.alloc (Obj.cells #[Value.int IntKind.u8 0, Value.int IntKind.u8 0, Value.nilFunc] 67)).alloc (.map waysE 33)).drew = .ok (.agg #[.int .u8 c, .int .u8 m, .func (.func f) #[] #[]]) ((w1.alloc (Obj.cells #[Value.int IntKind.u8 0, Value.int IntKind.u8 0, Value.nilFunc] 67)).alloc (.map waysE 33)).drew := hlook _ _ (hl3 _ _)
  go_region_held3 (fun V : World => V.cell? ⟨w.heap.size, 0, none⟩ = some (.int .i64 op)) (first | exact f_op | go_simp) (first | (go_at_call 38; refine (ways_any _).mono ?_; rintro e w' ⟨rfl, rfl⟩))
  all_goals
    clear look1 look2 look3 look4 look5 look6 hl2 hl3
    go_wp2_with fail
    go_at_fn f
    refine (hcall _).mono ?_
    rintro e w2 ⟨⟨v, rfl, hv⟩, hb2⟩
    have hcv := conv_str hv
    have hle : ∀ o o2 : Obj, w.heap.size ≤ ((w1.alloc o).alloc o2).drew.heap.size := by intro o o2; show _ ≤ ((w1.alloc o).alloc o2).heap.size; simp; omega
    have hb3 := (below_dr (bal (bal hB _) _)).trans (hb2.mono (hle _ _))
    clear hv hb2 hle
    go_wp2_with fail
    go_ret2
    exact ⟨rfl, hb3⟩
set_option maxHeartbeats 4000000 in
set_option maxRecDepth 100000 in
theorem inst_err (op d s t mb mi ms md imm : Int) (w : World)
    (hd : -9223372036854775808 ≤ md ∧ md ≤ 9223372036854775807) (hi : -9223372036854775808 ≤ imm ∧ imm ≤ 9223372036854775807)
    (hk : (errOf (chk op d s t mb mi ms md imm) != 0) = true) :
    Calls Try.prog 17 #[.agg #[.int .i64 op, .int .i64 d, .int .i64 s, .int .i64 t, .int .i64 mb, .int .i64 mi, .int .i64 ms, .int .i64 md, .int .i64 imm]] w
      fun e w' => e = .returned (.tuple #[.string ⟨#[]⟩, .int .i64 (errOf (chk op d s t mb mi ms md imm))]) ∧ Below w.heap.size w w' := by
  go_enter Try.func17, Try.ntmps17
  go_wp2_with (go_at_call 37; refine (check_any op d s t mb mi ms md imm _ hd hi).mono ?_; rintro e w1 ⟨rfl, hb1⟩)
  have hB : Below w.heap.size w w1 := (bal (Below.refl _ _) _).trans (hb1.mono (by simp))
  go_ret2
  exact ⟨rfl, hB⟩
end Go.Proofs.Ytakmpnmmcjnecaa
