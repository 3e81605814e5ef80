/- keysmithlaw06.EncodeRegisters, joined: the bytes of two instructions over two registers differ in the prefix alone. Conditions: the numbers are numbers of 64 bits. -/
import Derived.Test.YtakmpnmmcjnecaaERegs
namespace Go.Proofs.Ytakmpnmmcjnecaa
open Go.RowKit Calm

theorem get_list (a : ByteArray) (k : Nat) (h : k < a.size) : a.data.toList[k]? = some a[k] := by
  rw [Array.getElem?_toList, Array.getElem?_eq_getElem h]; rfl
theorem strB_get {l : List Int} (hl : Bytes l) (k : Nat) (h : k < (strB l).size) : l[k]? = some ((strB l)[k].toNat : Int) := by
  have e := get_list (strB l) k h
  rw [strB_list, List.getElem?_map] at e
  cases hk : l[k]? with
  | none => rw [hk] at e; simp at e
  | some x =>
    rw [hk] at e
    simp only [Option.map_some, Option.some.injEq] at e
    rw [← e, u8_back (hl x (List.mem_of_getElem? hk))]
theorem rex_bits (x : Int) (h : 72 ≤ x ∧ x ≤ 79) : (bits BinOp.andNot IntKind.u8 (bits BinOp.andNot IntKind.u8 x 72) 7 != 0) = false ∧ (bits BinOp.andNot IntKind.u8 72 x != 0) = false := by
  have : x = 72 ∨ x = 73 ∨ x = 74 ∨ x = 75 ∨ x = 76 ∨ x = 77 ∨ x = 78 ∨ x = 79 := by omega
  rcases this with rfl | rfl | rfl | rfl | rfl | rfl | rfl | rfl <;> decide +kernel
theorem eRegs_pre (d s op x : Int) (P R : List Int) (w : World) (hd : 0 ≤ d ∧ d ≤ 15) (hs : 0 ≤ s ∧ s ≤ 15) (hf : formB op = ⟨#[68, 83]⟩) (hk : chk op d s 0 0 0 0 0 0 = true) (hk2 : chk op (d % 8) (s % 8) 0 0 0 0 0 0 = true)
    (ha : encL op d s 0 0 0 0 0 0 = P ++ x :: R) (hb : encL op (d % 8) (s % 8) 0 0 0 0 0 0 = P ++ 72 :: R) (hx : 72 ≤ x ∧ x ≤ 79) (he : x = 72 ↔ d < 8 ∧ s < 8) (hl : 2 ≤ P.length + R.length) :
    Calls Try.prog 4 #[.int .i64 d, .int .i64 s, .int .i64 op] w fun e w' => e = .returned (.bool true) ∧ Below w.heap.size w w' := by
  have hA := encL_bytes hk
  have hB := encL_bytes hk2
  rw [ha] at hA
  rw [hb] at hB
  have oa : outE op d s 0 0 0 0 0 0 = strB (P ++ x :: R) := by unfold outE; rw [if_pos hk, ha]
  have ob : outE op (d % 8) (s % 8) 0 0 0 0 0 0 = strB (P ++ 72 :: R) := by unfold outE; rw [if_pos hk2, hb]
  have sa := strB_size (P ++ x :: R)
  have sb := strB_size (P ++ 72 :: R)
  by_cases h : x = 72
  · subst h
    exact eRegs_c d s op _ w hd hs hf hk hk2 oa ob (by rw [sa]; simp; omega) (by rw [sa]; exact hA.2.2) (he.1 rfl)
  · have ga : ∀ (k : Nat) (h : k < (strB (P ++ x :: R)).size) (h2 : k < (strB (P ++ 72 :: R)).size), k = P.length → ((strB (P ++ x :: R))[k].toNat : Int) = x ∧ ((strB (P ++ 72 :: R))[k].toNat : Int) = 72 := by
      intro k h1 h2 hkp
      have e1 := strB_get hA.1 k h1
      have e2 := strB_get hB.1 k h2
      subst hkp
      rw [List.getElem?_append_right (Nat.le_refl _), Nat.sub_self, List.getElem?_cons_zero, Option.some.injEq] at e1 e2
      exact ⟨e1.symm, e2.symm⟩
    refine eRegs_d d s op _ _ P.length w hd hs hf hk hk2 oa ob (by rw [sa]; simp; omega) (by rw [sa]; exact hA.2.2) (fun hlow => h (he.2 hlow)) (by rw [sa, sb]; simp) (by rw [sa]; simp) ?_ ?_ ?_ ?_
    · intro k h1 h2 hkp
      have e1 := strB_get hA.1 k h1
      have e2 := strB_get hB.1 k h2
      have : (P ++ x :: R)[k]? = (P ++ 72 :: R)[k]? := by
        rcases Nat.lt_or_ge k P.length with hlt | hge
        · rw [List.getElem?_append_left hlt, List.getElem?_append_left hlt]
        · rw [List.getElem?_append_right hge, List.getElem?_append_right hge]
          obtain ⟨m, hm⟩ : ∃ m, k - P.length = m + 1 := ⟨k - P.length - 1, by omega⟩
          rw [hm, List.getElem?_cons_succ, List.getElem?_cons_succ]
      rw [e1, e2, Option.some.injEq] at this
      omega
    · intro k h1 h2 hkp
      obtain ⟨e1, e2⟩ := ga k h1 h2 hkp
      rw [e1, e2]; simpa using h
    · intro k h1 h2 hkp
      obtain ⟨e1, e2⟩ := ga k h1 h2 hkp
      rw [e1, e2]; exact (rex_bits x hx).1
    · intro k h1 h2 hkp
      obtain ⟨e1, e2⟩ := ga k h1 h2 hkp
      rw [e1, e2]; exact (rex_bits x hx).2
theorem lo_mod (r : Int) : loR (r % 8) = loR r := by unfold loR; omega
theorem hi_mod (r : Int) : hiR (r % 8) = 0 := by unfold hiR; rw [if_neg (by omega)]
theorem both_mod (a b : Int) : bothI (a % 8) (b % 8) = bothI a b := by unfold bothI; rw [lo_mod, lo_mod]
theorem rex_mod (a b : Int) : rexI (a % 8) 0 (b % 8) = 72 := by unfold rexI; rw [hi_mod, hi_mod, hiR_z]; rfl
theorem rex_low (a b : Int) : rexI a 0 b = 72 ↔ b < 8 ∧ a < 8 := by
  unfold rexI
  rw [hiR_z]
  unfold hiR
  split <;> split <;> constructor <;> intro h <;> omega
theorem rex_low' (a b : Int) : rexI a 0 b = 72 ↔ a < 8 ∧ b < 8 := by rw [rex_low, and_comm]
theorem reg_mod {r : Int} (_ : Reg r) : Reg (r % 8) := by unfold Reg at *; omega
theorem two_case (op c d s : Int) (w : World) (hf : formB op = ⟨#[68, 83]⟩) (hk : ∀ a b, (chk op a b 0 0 0 0 0 0 = true) = ((0 : Int) = 0 ∧ Reg a ∧ Reg b ∧ (0 : Int) = 0 ∧ ((0 : Int) = 0 ∧ (0 : Int) = 0 ∧ (0 : Int) = 0 ∧ (0 : Int) = 0)))
    (he : ∀ a b, encL op a b 0 0 0 0 0 0 = [rexI b 0 a, c, bothI b a]) (h : chk op d s 0 0 0 0 0 0 = true) :
    Calls Try.prog 4 #[.int .i64 d, .int .i64 s, .int .i64 op] w fun e w' => e = .returned (.bool true) ∧ Below w.heap.size w w' := by
  have h0 := h
  rw [hk] at h0
  have h2 : chk op (d % 8) (s % 8) 0 0 0 0 0 0 = true := by rw [hk]; exact ⟨rfl, reg_mod h0.2.1, reg_mod h0.2.2.1, rfl, rfl, rfl, rfl, rfl⟩
  exact eRegs_pre d s op (rexI s 0 d) [] [c, bothI s d] w h0.2.1 h0.2.2.1 hf h h2 (he _ _) (by rw [he, rex_mod, both_mod]; rfl) (rexI_b _ _ _) (rex_low _ _) (by simp)
theorem chain_case (op c m d s : Int) (w : World) (hf : formB op = ⟨#[68, 83]⟩) (hk : ∀ a b, (chk op a b 0 0 0 0 0 0 = true) = ((0 : Int) = 0 ∧ Reg a ∧ Reg b ∧ (0 : Int) = 0 ∧ ((0 : Int) = 0 ∧ (0 : Int) = 0 ∧ (0 : Int) = 0 ∧ (0 : Int) = 0)))
    (he : ∀ a b, encL op a b 0 0 0 0 0 0 = [c, rexI a 0 b, 15, 56, m, bothI a b]) (h : chk op d s 0 0 0 0 0 0 = true) :
    Calls Try.prog 4 #[.int .i64 d, .int .i64 s, .int .i64 op] w fun e w' => e = .returned (.bool true) ∧ Below w.heap.size w w' := by
  have h0 := h
  rw [hk] at h0
  have h2 : chk op (d % 8) (s % 8) 0 0 0 0 0 0 = true := by rw [hk]; exact ⟨rfl, reg_mod h0.2.1, reg_mod h0.2.2.1, rfl, rfl, rfl, rfl, rfl⟩
  exact eRegs_pre d s op (rexI d 0 s) [c] [15, 56, m, bothI d s] w h0.2.1 h0.2.2.1 hf h h2 (he _ _) (by rw [he, rex_mod, both_mod]; rfl) (rexI_b _ _ _) (rex_low' _ _) (by simp)
theorem move_case (op c m d s : Int) (w : World) (hf : formB op = ⟨#[68, 83]⟩) (hk : ∀ a b, (chk op a b 0 0 0 0 0 0 = true) = ((0 : Int) = 0 ∧ Reg a ∧ Reg b ∧ (0 : Int) = 0 ∧ ((0 : Int) = 0 ∧ (0 : Int) = 0 ∧ (0 : Int) = 0 ∧ (0 : Int) = 0)))
    (he : ∀ a b, encL op a b 0 0 0 0 0 0 = [rexI a 0 b, c, m, bothI a b]) (h : chk op d s 0 0 0 0 0 0 = true) :
    Calls Try.prog 4 #[.int .i64 d, .int .i64 s, .int .i64 op] w fun e w' => e = .returned (.bool true) ∧ Below w.heap.size w w' := by
  have h0 := h
  rw [hk] at h0
  have h2 : chk op (d % 8) (s % 8) 0 0 0 0 0 0 = true := by rw [hk]; exact ⟨rfl, reg_mod h0.2.1, reg_mod h0.2.2.1, rfl, rfl, rfl, rfl, rfl⟩
  exact eRegs_pre d s op (rexI d 0 s) [] [c, m, bothI d s] w h0.2.1 h0.2.2.1 hf h h2 (he _ _) (by rw [he, rex_mod, both_mod]; rfl) (rexI_b _ _ _) (rex_low' _ _) (by simp)
theorem eRegs_walk (d : Int) (_w0 : (Lit.int .i64 d).wf = true) (s : Int) (_w1 : (Lit.int .i64 s).wf = true) (op : Int) (_w2 : (Lit.int .i64 op).wf = true) (w : World) :
    Calls Try.prog 4 #[.int .i64 d, .int .i64 s, .int .i64 op] w fun e w' => e = .returned (.bool true) ∧ Below w.heap.size w w' := by
  by_cases hf : formB op = ⟨#[68, 83]⟩
  · cases hk : chk op d s 0 0 0 0 0 0
    · exact eRegs_b d s op w hf hk
    · have hr := chk_range hk
      have : op = 1 ∨ op = 2 ∨ op = 3 ∨ op = 4 ∨ op = 5 ∨ op = 6 ∨ op = 7 ∨ op = 8 ∨ op = 9 ∨ op = 10 ∨ op = 11 ∨ op = 12 ∨ op = 13 ∨ op = 14 ∨ op = 15 ∨ op = 16 ∨ op = 17 ∨ op = 18 ∨ op = 19 ∨ op = 20 ∨ op = 21 ∨ op = 22 ∨ op = 23 ∨ op = 24 ∨ op = 25 ∨ op = 26 ∨ op = 27 ∨ op = 28 ∨ op = 29 ∨ op = 30 ∨ op = 31 ∨ op = 32 ∨ op = 33 := by omega
      rcases this with rfl | rfl | rfl | rfl | rfl | rfl | rfl | rfl | rfl | rfl | rfl | rfl | rfl | rfl | rfl | rfl | rfl | rfl | rfl | rfl | rfl | rfl | rfl | rfl | rfl | rfl | rfl | rfl | rfl | rfl | rfl | rfl | rfl
      · exact two_case 1 137 d s w rfl (fun _ _ => chk_1 _ _ _ _ _ _ _ _) (fun _ _ => rfl) hk
      · exact absurd hf (by decide +kernel)
      · exact absurd hf (by decide +kernel)
      · exact absurd hf (by decide +kernel)
      · exact absurd hf (by decide +kernel)
      · exact two_case 6 1 d s w rfl (fun _ _ => chk_6 _ _ _ _ _ _ _ _) (fun _ _ => rfl) hk
      · exact two_case 7 17 d s w rfl (fun _ _ => chk_7 _ _ _ _ _ _ _ _) (fun _ _ => rfl) hk
      · exact two_case 8 41 d s w rfl (fun _ _ => chk_8 _ _ _ _ _ _ _ _) (fun _ _ => rfl) hk
      · exact two_case 9 25 d s w rfl (fun _ _ => chk_9 _ _ _ _ _ _ _ _) (fun _ _ => rfl) hk
      · exact two_case 10 33 d s w rfl (fun _ _ => chk_10 _ _ _ _ _ _ _ _) (fun _ _ => rfl) hk
      · exact two_case 11 9 d s w rfl (fun _ _ => chk_11 _ _ _ _ _ _ _ _) (fun _ _ => rfl) hk
      · exact two_case 12 49 d s w rfl (fun _ _ => chk_12 _ _ _ _ _ _ _ _) (fun _ _ => rfl) hk
      · exact two_case 13 57 d s w rfl (fun _ _ => chk_13 _ _ _ _ _ _ _ _) (fun _ _ => rfl) hk
      · exact two_case 14 133 d s w rfl (fun _ _ => chk_14 _ _ _ _ _ _ _ _) (fun _ _ => rfl) hk
      · exact absurd hf (by decide +kernel)
      · exact absurd hf (by decide +kernel)
      · exact absurd hf (by decide +kernel)
      · exact absurd hf (by decide +kernel)
      · exact absurd hf (by decide +kernel)
      · exact chain_case 20 102 246 d s w rfl (fun _ _ => chk_20 _ _ _ _ _ _ _ _) (fun _ _ => rfl) hk
      · exact chain_case 21 243 246 d s w rfl (fun _ _ => chk_21 _ _ _ _ _ _ _ _) (fun _ _ => rfl) hk
      · exact absurd hf (by decide +kernel)
      · exact absurd hf (by decide +kernel)
      · exact absurd hf (by decide +kernel)
      · exact absurd hf (by decide +kernel)
      · exact move_case 26 15 66 d s w rfl (fun _ _ => chk_26 _ _ _ _ _ _ _ _) (fun _ _ => rfl) hk
      · exact move_case 27 15 69 d s w rfl (fun _ _ => chk_27 _ _ _ _ _ _ _ _) (fun _ _ => rfl) hk
      · exact absurd hf (by decide +kernel)
      · exact absurd hf (by decide +kernel)
      · exact absurd hf (by decide +kernel)
      · exact absurd hf (by decide +kernel)
      · exact absurd hf (by decide +kernel)
      · exact absurd hf (by decide +kernel)
  · exact eRegs_a d s op w hf
end Go.Proofs.Ytakmpnmmcjnecaa
