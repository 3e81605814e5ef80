/- Plain: what is no ASCII is no digit in low letters, either; digits and their texts. -/
import Derived.Test.YtpemoeincepilaaDoorNtHl
set_option linter.unusedVariables false
set_option linter.unusedSimpArgs false
namespace Go.Proofs.YtpemoeincepilaaDoor.Nt
open Go Go.RowKit SL Go.Shelf Go.Lib

theorem decode_hi (s : ByteArray) (i : Nat) (h : 128 ≤ (s.get! i).toNat) : 128 ≤ (Utf8.decode s i).1 := by
  unfold Utf8.decode
  simp only [Nat.add_zero]
  rw [if_neg (by omega)]
  repeat' split
  all_goals first | (rename_i h1; simp only [ge_iff_le, Bool.and_eq_true, decide_eq_true_eq] at h1; simp only; omega) | (show 128 ≤ Utf8.runeError; decide)
theorem decodeL_hi (b : UInt8) (t : List UInt8) (h : 128 ≤ b.toNat) : 128 ≤ (decodeL (b :: t)).1 := decode_hi _ 0 h
def rowOk (x : CaseRow) : Bool := decide (x.2.1 < 128) || decide (x.delta 1 > 1114111) || decide (128 ≤ (x.1 : Int) + x.delta 1) || (decide (x.1 = x.2.1) && decide (0 ≤ (x.1 : Int) + x.delta 1) && decide (16 ≤ hx ((x.1 : Int) + x.delta 1).toNat))
theorem rows_ok : (caseT.all rowOk) = true := by decide +kernel
theorem lookup_in (T : Array CaseRow) (r : Int) : ∀ (f lo hi i : Nat), hi ≤ T.size → lookupIdx T r f lo hi = some i → i < T.size ∧ ((T.getD i (0, 0, 0, 0, 0)).1 : Int) ≤ r ∧ r ≤ ((T.getD i (0, 0, 0, 0, 0)).2.1 : Int)
  | 0, _, _, _, _, h => by cases h
  | f + 1, lo, hi, i, hs, h => by
    unfold lookupIdx at h
    split at h
    · split at h
      · rename_i h1
        cases h
        exact ⟨by omega, h1⟩
      · split at h
        · exact lookup_in T r f _ _ i (by omega) h
        · exact lookup_in T r f _ _ i hs h
    · cases h
theorem toLowerU_hi {r : Int} (h : 128 ≤ r) : 128 ≤ toLowerU r ∨ (0 ≤ toLowerU r ∧ 16 ≤ hx (toLowerU r).toNat) := by
  unfold toLowerU
  rw [if_neg (by omega)]
  unfold toR lookupGo
  cases hl : lookupIdx caseA r (caseA.size + 1) 0 caseA.size with
  | none => exact .inl h
  | some i =>
    obtain ⟨hi, h1, h2⟩ := lookup_in caseA r _ _ _ i (Nat.le_refl _) hl
    simp only [Option.map_some]
    have hm : caseA.getD i (0, 0, 0, 0, 0) ∈ caseT := by
      have : caseA.getD i (0, 0, 0, 0, 0) = caseA[i] := by rw [Array.getD_eq_getD_getElem?, Array.getElem?_eq_getElem hi]; rfl
      rw [this]
      have := Array.getElem_mem hi
      unfold caseA at this ⊢
      simpa using this
    have ho := List.all_eq_true.1 rows_ok _ hm
    generalize caseA.getD i (0, 0, 0, 0, 0) = x at *
    unfold rowOk at ho
    simp only [Bool.or_eq_true, Bool.and_eq_true, decide_eq_true_eq] at ho
    unfold convertR
    rcases ho with ((ho | ho) | ho) | ⟨⟨ho1, ho2⟩, ho3⟩
    · omega
    · rw [if_pos ho]
      left
      have := Int.emod_nonneg (r - x.1) (show (2 : Int) ≠ 0 by omega)
      have := Int.emod_lt_of_pos (r - x.1) (show (0 : Int) < 2 by omega)
      omega
    · split
      · left
        have := Int.emod_nonneg (r - x.1) (show (2 : Int) ≠ 0 by omega)
        have := Int.emod_lt_of_pos (r - x.1) (show (0 : Int) < 2 by omega)
        omega
      · left; omega
    · split
      · left
        have := Int.emod_nonneg (r - x.1) (show (2 : Int) ≠ 0 by omega)
        have := Int.emod_lt_of_pos (r - x.1) (show (0 : Int) < 2 by omega)
        omega
      · right
        have e : r = (x.1 : Int) := by omega
        rw [e]; exact ⟨ho2, ho3⟩
theorem hx_hi {c : Nat} (h : 103 ≤ c) : 16 ≤ hx c := by unfold hx; rw [if_neg (by omega), if_neg (by omega)]; omega
theorem encode_bad {v : Int} (h : 128 ≤ v ∨ (0 ≤ v ∧ 16 ≤ hx v.toNat)) : ∃ c ∈ encodeRune v, 16 ≤ hx c.toNat := by
  have big : ∀ {z : Int} {l : List Int}, 128 ≤ z → z ≤ 255 → encodeRuneZ v = z :: l → ∃ c ∈ encodeRune v, 16 ≤ hx c.toNat := by
    intro z l h1 h2 he
    refine ⟨z.toNat.toUInt8, by unfold encodeRune; rw [he]; exact List.mem_cons_self, ?_⟩
    refine hx_hi ?_
    have : z.toNat.toUInt8.toNat = z.toNat % 256 := rfl
    rw [this]; omega
  by_cases h0 : 0 ≤ v ∧ v ≤ 127
  · have hh : 16 ≤ hx v.toNat := by rcases h with h | h <;> first | omega | exact h.2
    refine ⟨v.toNat.toUInt8, by unfold encodeRune encodeRuneZ; rw [if_pos h0]; exact List.mem_cons_self, ?_⟩
    have : v.toNat.toUInt8.toNat = v.toNat % 256 := rfl
    rw [this, Nat.mod_eq_of_lt (by omega)]; exact hh
  · by_cases h1 : 128 ≤ v ∧ v ≤ 2047
    · exact big (z := 192 + v / 64) (by omega) (by omega) (by unfold encodeRuneZ; rw [if_neg h0, if_pos h1])
    · by_cases h2 : (2048 ≤ v ∧ v < 55296) ∨ (57343 < v ∧ v ≤ 65535)
      · exact big (z := 224 + v / 4096) (by omega) (by omega) (by unfold encodeRuneZ; rw [if_neg h0, if_neg h1, if_pos h2])
      · by_cases h3 : 65536 ≤ v ∧ v ≤ 1114111
        · exact big (z := 240 + v / 262144) (by omega) (by omega) (by unfold encodeRuneZ; rw [if_neg h0, if_neg h1, if_neg h2, if_pos h3])
        · exact big (z := 239) (by omega) (by omega) (by unfold encodeRuneZ; rw [if_neg h0, if_neg h1, if_neg h2, if_neg h3])
theorem map_bad : ∀ (n : Nat) (l : List UInt8), l.length ≤ n → (∃ b ∈ l, 128 ≤ b.toNat) → ∃ c ∈ mapGoD toLowerU n l, 16 ≤ hx c.toNat
  | 0, l, hn, ⟨b, hb, _⟩ => by
    have hl : l = [] := List.eq_nil_of_length_eq_zero (by omega)
    subst hl; cases hb
  | n + 1, [], _, ⟨b, hb, _⟩ => by cases hb
  | n + 1, b :: t, hn, h => by
    unfold mapGoD
    rw [if_neg (by simp)]
    by_cases hb : b.toNat < 128
    · rw [decodeL_ascii b t hb]
      obtain ⟨d, hd, h8⟩ := h
      have hd' : d ∈ t := by
        rcases List.mem_cons.1 hd with rfl | hd
        · omega
        · exact hd
      obtain ⟨c, hc, h16⟩ := map_bad n t (by simp at hn; omega) ⟨d, hd', h8⟩
      exact ⟨c, List.mem_append_right _ hc, h16⟩
    · have hr := decodeL_hi b t (by omega)
      have hu := toLowerU_hi (r := ((decodeL (b :: t)).1 : Int)) (by omega)
      obtain ⟨c, hc, h16⟩ := encode_bad hu
      rw [if_pos (by rcases hu with h | h <;> omega)]
      exact ⟨c, List.mem_append_left _ hc, h16⟩
/-- A byte beyond ASCII: what it is in low letters is no digit. -/
theorem lower_bad {l : List UInt8} (h : ∃ b ∈ l, 128 ≤ b.toNat) : ∃ c ∈ toLowerD l, 16 ≤ hx c.toNat := map_bad l.length l (Nat.le_refl _) h
theorem hx_lower : ∀ n, n < 128 → hx (Lib.lowerB (UInt8.ofNat n)).toNat = dv n := by decide +kernel
theorem hx_lowB (b : UInt8) (h : b.toNat < 128) : hx (Lib.lowerB b).toNat = dv b.toNat := by
  have := hx_lower b.toNat h
  rw [UInt8.ofNat_toNat] at this; exact this
/-- A text's bytes, as numbers. -/
def nb (s : ByteArray) : List Nat := s.data.toList.map (·.toNat)
/-- What Read answers, told by the text itself. -/
theorem readE_at (s : ByteArray) : readE s.size (toLowerD s.data.toList) = if s.size = 0 then (0, 2) else if (∀ c ∈ nb s, dv c < 16) then (if 8192 < ndig (rdT (nb s)) then (0, 3) else (rdT (nb s), 0)) else (0, 7) := by
  unfold readE
  by_cases h0 : s.size = 0
  · rw [if_pos h0, if_pos h0]
  rw [if_neg h0, if_neg h0]
  by_cases ha : ∀ b ∈ s.data.toList, b.toNat < 128
  · rw [toLowerD_ascii _ ha]
    have hm : (toLowerA s.data.toList).map (fun c => hx c.toNat) = (nb s).map dv := by
      unfold toLowerA nb
      rw [List.map_map, List.map_map]
      exact List.map_congr_left fun b hb => hx_lowB b (ha b hb)
    have hi : (∀ c ∈ toLowerA s.data.toList, hx c.toNat < 16) ↔ (∀ c ∈ nb s, dv c < 16) := by
      have e1 : (∀ c ∈ toLowerA s.data.toList, hx c.toNat < 16) ↔ ∀ x ∈ (toLowerA s.data.toList).map (fun c => hx c.toNat), x < 16 := by simp
      have e2 : (∀ c ∈ nb s, dv c < 16) ↔ ∀ x ∈ (nb s).map dv, x < 16 := by simp
      rw [e1, e2, hm]
    rw [hm]
    by_cases h : ∀ c ∈ nb s, dv c < 16
    · rw [if_pos h, if_pos (hi.2 h)]; rfl
    · rw [if_neg h, if_neg (fun h' => h (hi.1 h'))]
  · have hb : ∃ b ∈ s.data.toList, 128 ≤ b.toNat := by
      apply Classical.byContradiction
      intro hn
      exact ha fun b hb => Classical.byContradiction fun h => hn ⟨b, hb, by omega⟩
    obtain ⟨c, hc, h16⟩ := lower_bad hb
    obtain ⟨b, hb, h8⟩ := hb
    rw [if_neg (fun h => by have := h c hc; omega), if_neg (fun h => by
      have := h b.toNat (List.mem_map.2 ⟨b, hb, rfl⟩)
      unfold dv at this
      rw [if_neg (by omega), if_neg (by omega), if_neg (by omega)] at this
      omega)]
end Go.Proofs.YtpemoeincepilaaDoor.Nt
