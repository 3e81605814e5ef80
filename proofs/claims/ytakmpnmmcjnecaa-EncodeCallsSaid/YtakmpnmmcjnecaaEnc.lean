/- The walks of package encode's small functions (layer 6): a register's bits, the byte ahead, the byte of two registers, a number's bytes. -/
import Derived.Test.YtakmpnmmcjnecaaCheck
import Derived.Deep.QuietTactic
import Derived.BigQuiet
import Derived.Laws.AppendOwnNone
namespace Go.Proofs.Ytakmpnmmcjnecaa
open Go.RowKit Calm

/-! Rows of bytes of the call's own -/
theorem Try.infoU8 : (Try.prog.info? 5).map (fun i => (i.zero, i.size, i.bytes)) = some (some (.int .u8 0), 1, 1) := by kernel_rfl
def IsB (w : World) (B : Nat) (v : Value) (bs : List Int) : Prop := w.ownsRow B 5 1 v bs.length (bs.map (Value.int .u8))
def RetB (B : Nat) (bs : List Int) (e : Ending) (w : World) : Prop := ∃ v, e = .returned v ∧ IsB w B v bs
theorem IsB.nil (w : World) (B : Nat) : IsB w B (.slice none 0 0) [] := World.ownsRow_nil w B _ _
theorem IsB.mono {w : World} {B B' : Nat} {v : Value} {bs : List Int} (h : IsB w B v bs) (hB : B' ≤ B) : IsB w B' v bs := by
  obtain ⟨h1, h2⟩ := h
  refine ⟨h1, ?_⟩
  rcases h2 with h2 | ⟨g, cap, cur, a, b, c⟩
  · exact .inl h2
  · exact .inr ⟨g, cap, cur, a, by omega, c⟩
theorem IsB.alloc {w : World} {B : Nat} {v : Value} {bs : List Int} (h : IsB w B v bs) (o : Obj) : IsB (w.alloc o) B v bs := World.ownsRow.alloc h o
theorem IsB.later {w w' : World} {B : Nat} {v : Value} {bs : List Int} (h : IsB w B v bs) (hb : Below w.heap.size w w') : IsB w' B v bs := by
  obtain ⟨h1, h2⟩ := h
  refine ⟨h1, ?_⟩
  rcases h2 with h2 | ⟨g, cap, cur, a, b, c, d⟩
  · exact .inl h2
  · have hg : g < w.heap.size := by
      rcases Nat.lt_or_ge g w.heap.size with hlt | hge
      · exact hlt
      · rw [Array.getElem?_eq_none hge] at c; simp at c
    exact .inr ⟨g, cap, cur, a, b, by rw [hb.block g hg]; exact c, d⟩
theorem IsB.lit (w : World) (B : Nat) (bs : List Int) (n : Nat) (hn : n = bs.length) (cs : Array Value) (hcs : cs.toList = bs.map (Value.int .u8)) (hB : B ≤ w.heap.size) (hl : bs.length ≤ 1000) :
    IsB (w.alloc (.cells cs 5)) B (.slice (some ⟨w.heap.size, 0, none⟩) n n) bs := by
  subst hn
  have hsz : cs.size = bs.length := by rw [← Array.length_toList, hcs]; simp
  have h := World.ownsRow_lit (base := B) (e := 5) (size := 1) w cs bs.length hB (by unfold maxLen; omega) (by rw [hsz]; simp)
  unfold IsB
  rw [← hcs]
  exact h
theorem le_alloc {a : Nat} {w : World} (h : a ≤ w.heap.size) (o : Obj) : a ≤ (w.alloc o).heap.size := by simp; omega
theorem wpList_appB {ops : Array Oper} {rest : List Oper} {o : Oper} {a : Act} {w : World} {Q : Exit → Act → World → Prop} (hgd : o.guard = none) (s x : Operand)
    (ho : o.op = .call { callee := .builtin .append, args := #[s, x], argTypes := #[70, 70] })
    {B B' : Nat} {v y : Value} {xs bs : List Int} (hs : a.eval s = v) (hx : a.eval x = y) (h1 : IsB w B v xs) (h2 : IsB w B' y bs) (hB : B ≤ w.heap.size) (hl : xs.length + bs.length ≤ 1000)
    (h : ∀ v' w', IsB w' B v' (xs ++ bs) → Below B w w' → wpList Try.prog ops Q rest (a.put o.dst v') w') : wpList Try.prog ops Q (o :: rest) a w := by
  obtain ⟨i0, hi, hz0, hz1, hz2⟩ := info_parts Try.infoU8
  obtain ⟨hl2, hy⟩ := h2
  rcases hy with ⟨rfl, hn⟩ | ⟨g, cap, cur, rfl, hg, hh, hnc, hcm, hcs, htk⟩
  · have hb : bs = [] := by cases bs with | nil => rfl | cons _ _ => simp at hn
    subst hb
    refine wpList_append_own_none hgd s x 70 ho B 5 i0 1 Try.underlying70 hi v _ _ hs h1 hx ?_
    have := h v w (by rw [List.append_nil]; exact h1) (Below.refl _ _)
    exact this
  · refine wpList_append_own w hgd s x 70 ho B 5 i0 (.int .u8 0) 1 1 Try.underlying70 hi hz0 hz1 hz2 rfl (by decide) v xs.length _ hs h1 ⟨g, 0, none⟩ bs.length cap (bs.map (Value.int .u8)) hx (by simp) ?_ ?_ ?_ ?_ hB ?_
    · intro j u hu
      have e : (⟨g, 0, none⟩ : Addr).add j = ⟨g, j, none⟩ := by unfold Addr.add; split <;> simp_all
      rw [e]
      have hj : j < bs.length := by
        rcases Nat.lt_or_ge j bs.length with hlt | hge
        · exact hlt
        · rw [List.getElem?_eq_none (by simpa using hge)] at hu; simp at hu
      unfold World.cell?
      rw [hh]
      simp only [Option.isSome_none, Bool.false_eq_true, if_false]
      rw [← htk, List.getElem?_take, if_pos (by omega)] at hu
      rw [← Array.getElem?_toList]; exact hu
    · intro u hu
      obtain ⟨n, _, rfl⟩ := List.mem_map.1 hu
      rfl
    · unfold maxLen; omega
    · omega
    · intro v' w' hown hgr _
      refine h v' w' ?_ ?_
      · unfold IsB
        rw [List.length_append, List.map_append]; exact hown
      · refine (Below.refl B w).grown hgr hB ?_
        intro k hk
        exact (World.ownsRow.lt h1 k hk).1

theorem and7 (r : Int) (h : 0 ≤ r ∧ r ≤ 15) : bits BinOp.and IntKind.i64 r 7 % 256 = r % 8 := by
  have : r = 0 ∨ r = 1 ∨ r = 2 ∨ r = 3 ∨ r = 4 ∨ r = 5 ∨ r = 6 ∨ r = 7 ∨ r = 8 ∨ r = 9 ∨ r = 10 ∨ r = 11 ∨ r = 12 ∨ r = 13 ∨ r = 14 ∨ r = 15 := by omega
  rcases this with rfl | rfl | rfl | rfl | rfl | rfl | rfl | rfl | rfl | rfl | rfl | rfl | rfl | rfl | rfl | rfl <;> decide +kernel
def loR (r : Int) : Int := r % 8
def hiR (r : Int) : Int := if 8 ≤ r then 1 else 0
theorem loR_in (r : Int) : 0 ≤ loR r ∧ loR r ≤ 7 := by unfold loR; omega
theorem hiR_01 (r : Int) : hiR r = 0 ∨ hiR r = 1 := by unfold hiR; split <;> simp
theorem low_any (r : Int) (w : World) (h : 0 ≤ r ∧ r ≤ 15) :
    Calls Try.prog 81 #[.int .i64 r] w fun e w' => e = .returned (.int .u8 (loR r)) ∧ w = w' := by
  have hf := hidd (and7 r h)
  go_enter Try.func81, Try.ntmps81
  go_wp2
  go_ret
  exact ⟨ret_int hf.out, rfl⟩
theorem high_any (r : Int) (w : World) (h : -1 ≤ r ∧ r ≤ 15) :
    Calls Try.prog 84 #[.int .i64 r] w fun e w' => e = .returned (.int .u8 (hiR r)) ∧ w = w' := by
  have h1 : r < 0 ∨ (0 ≤ r ∧ r < 8) ∨ 8 ≤ r := by omega
  rcases h1 with h1 | h1 | h1
  · have hf : Hid (0 = hiR r) := by show _ = _; unfold hiR; rw [if_neg (by omega)]
    go_enter Try.func84, Try.ntmps84
    go_wp2
    go_ret
    exact ⟨ret_int hf.out, rfl⟩
  · have hf : Hid (r / 8 = hiR r) := by show _ = _; unfold hiR; rw [if_neg (by omega)]; omega
    go_enter Try.func84, Try.ntmps84
    go_wp2
    go_ret
    exact ⟨ret_int hf.out, rfl⟩
  · have hf : Hid (r / 8 = hiR r) := by show _ = _; unfold hiR; rw [if_pos (by omega)]; omega
    go_enter Try.func84, Try.ntmps84
    go_wp2
    go_ret
    exact ⟨ret_int hf.out, rfl⟩
attribute [local irreducible] loR hiR
def rexI (mid x last : Int) : Int := 72 + 4 * hiR mid + 2 * hiR x + hiR last
def bothI (mid last : Int) : Int := 192 + 8 * loR mid + loR last
theorem rex_form (a b c : Int) : bits BinOp.or IntKind.u8 (bits BinOp.or IntKind.u8 (bits BinOp.or IntKind.u8 72 (hiR a * 4 % 256)) (hiR b * 2 % 256)) (hiR c) = rexI a b c := by
  unfold rexI
  rcases hiR_01 a with h1 | h1 <;> rcases hiR_01 b with h2 | h2 <;> rcases hiR_01 c with h3 | h3 <;> rw [h1, h2, h3] <;> decide +kernel
theorem both_all : ∀ a ∈ List.range 8, ∀ b ∈ List.range 8, bits BinOp.or IntKind.u8 (bits BinOp.or IntKind.u8 192 ((a : Int) * 8 % 256)) (b : Int) = 192 + 8 * (a : Int) + (b : Int) := by decide +kernel
theorem both_form (a b : Int) : bits BinOp.or IntKind.u8 (bits BinOp.or IntKind.u8 192 (loR a * 8 % 256)) (loR b) = bothI a b := by
  unfold bothI
  have ha := loR_in a
  have hb := loR_in b
  have h := both_all (loR a).toNat (by rw [List.mem_range]; omega) (loR b).toNat (by rw [List.mem_range]; omega)
  rw [show (((loR a).toNat : Nat) : Int) = loR a by omega, show (((loR b).toNat : Nat) : Int) = loR b by omega] at h
  exact h
theorem rex_any (mid x last : Int) (w : World) (h1 : -1 ≤ mid ∧ mid ≤ 15) (h2 : -1 ≤ x ∧ x ≤ 15) (h3 : -1 ≤ last ∧ last ≤ 15) :
    Calls Try.prog 79 #[.int .i64 mid, .int .i64 x, .int .i64 last] w fun e w' => e = .returned (.int .u8 (rexI mid x last)) ∧ w = w' := by
  go_enter Try.func79, Try.ntmps79
  go_wp2_with (go_at_call 84; refine (high_any _ _ (by assumption)).mono ?_; rintro e w' ⟨rfl, rfl⟩)
  go_ret
  exact ⟨ret_int (rex_form mid x last), rfl⟩
theorem both_any (mid last : Int) (w : World) (h1 : 0 ≤ mid ∧ mid ≤ 15) (h3 : 0 ≤ last ∧ last ≤ 15) :
    Calls Try.prog 80 #[.int .i64 mid, .int .i64 last] w fun e w' => e = .returned (.int .u8 (bothI mid last)) ∧ w = w' := by
  go_enter Try.func80, Try.ntmps80
  go_wp2_with (go_at_call 81; refine (low_any _ _ (by assumption)).mono ?_; rintro e w' ⟨rfl, rfl⟩)
  go_ret
  exact ⟨ret_int (both_form mid last), rfl⟩
/-- A number's bytes, the least one first. -/
def littleL (n : Int) : Nat → List Int
  | 0 => []
  | k + 1 => (n % 256) :: littleL (n / 256) k
theorem littleL_length (n : Int) (k : Nat) : (littleL n k).length = k := by induction k generalizing n with | zero => rfl | succ k ih => simp [littleL, ih]
def HasB (w : World) (B : Nat) (v : Value) (acc : List Int) (n m : Int) (k j : Nat) : Prop := IsB w B v acc ∧ acc ++ littleL m (k - j) = littleL n k ∧ acc.length = j
set_option maxHeartbeats 1000000 in
set_option maxRecDepth 100000 in
theorem little_any (n : Int) (k : Nat) (w : World) (hk : k ≤ 8) (hn : -9223372036854775808 ≤ n ∧ n ≤ 9223372036854775807) :
    Calls Try.prog 82 #[.int .i64 n, .int .i64 k] w fun e w' => RetB w.heap.size (littleL n k) e w' ∧ Below w.heap.size w w' := by
  go_enter Try.func82, Try.ntmps82
  go_wp2
  go_loopw [0, 4, 6] (fun x v i wr => ∃ (j : Nat) (m : Int) (acc : List Int), j ≤ k ∧ i = .int .i64 j ∧ x = .int .i64 m ∧ (-9223372036854775808 ≤ m ∧ m ≤ 9223372036854775807) ∧ HasB wr w.heap.size v acc n m k j ∧ Below w.heap.size w wr) (fun _ _ i _ => k - (intOf i).toNat)
  case atStart => exact ⟨0, n, [], by omega, rfl, rfl, hn, ⟨IsB.nil _ _, by simp, rfl⟩, Below.refl _ _⟩
  case round =>
    obtain ⟨j, m, acc, hj, rfl, rfl, hm, hh, hb⟩ := hrel
    by_cases hlt : j < k
    · obtain ⟨hB, ha, hl⟩ := hh
      have ha' := hidd ha
      have hl' := hidd hl
      clear ha hl
      have hsz := hb.size
      have hacc : acc.length + 1 ≤ 1000 := by have := hl'.out; omega
      go_wp2_with (at_builtin; refine wpList_appB (xs := acc) (bs := [m % 256]) (B := w.heap.size) (B' := 0) rfl _ _ rfl rfl rfl (IsB.alloc hB _) (IsB.lit wr 0 [m % 256] 1 rfl _ rfl (Nat.zero_le _) (by simp)) (le_alloc hsz _) hacc ?_; intro v' w' hB' hb'; clear hB)
      go_roundw
      case rel => exact ⟨j + 1, m / 256, acc ++ [m % 256], by omega, by go_num, rfl, by omega, ⟨hB', by have := ha'.out; rw [← this, show k - j = (k - (j + 1)) + 1 by omega, littleL]; simp, by have := hl'.out; simp; omega⟩, (bal hb _).trans hb'⟩
      case measure => simp [intOf]; omega
    · obtain ⟨hB, ha, hl⟩ := hh
      have e : j = k := by omega
      subst e
      have hf : Hid (acc = littleL n j) := by show _ = _; rw [← ha]; simp [littleL]
      clear ha hl
      go_wp2
      go_ret
      exact ⟨⟨_, rfl, by rw [← hf.out]; exact hB⟩, hb⟩
end Go.Proofs.Ytakmpnmmcjnecaa
