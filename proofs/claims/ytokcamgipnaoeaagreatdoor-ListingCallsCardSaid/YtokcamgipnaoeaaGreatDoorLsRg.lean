/- Listing, plain: the document's Read reads what Read reads. -/
import Derived.Test.YtokcamgipnaoeaaGreatDoorLsRf
set_option linter.unusedVariables false
set_option linter.unusedSimpArgs false
namespace Go.Proofs.YtokcamgipnaoeaaGreatDoor.Ls
open Go Go.Lib

theorem nv_snoc (c : UInt8) : ∀ (l : List UInt8) (v : Nat), numV (l ++ [c]) v = match numV l v with | some w => numV [c] w | none => none
  | [], v => rfl
  | a :: l, v => by
    show numV (a :: (l ++ [c])) v = _
    unfold numV
    split
    · exact nv_snoc c l _
    · rfl
theorem nv_dec (u : Nat) : numV (decDigits u) 0 = some u := by
  induction u using Nat.strongRecOn with
  | _ u ih =>
    rw [decDigits]
    split
    · rename_i h1
      have hc : (UInt8.ofNat (48 + u)).toNat = 48 + u := by simp; omega
      unfold numV
      rw [hc, if_pos (by omega)]
      show some _ = _
      congr 1; omega
    · rename_i h1
      rw [nv_snoc, ih (u / 10) (by omega)]
      have hc : (UInt8.ofNat (48 + u % 10)).toNat = 48 + u % 10 := by simp; omega
      simp only
      unfold numV
      rw [hc, if_pos (by omega)]
      show some _ = _
      congr 1; omega
theorem nE_pos (u : Nat) (h : u ≤ 9223372036854775807) : numE false u = (u : Int) := by
  unfold numE
  simp only [Bool.false_eq_true, if_false]
  rw [IntKind.wrap_i64]; omega
theorem nE_neg (u : Nat) (h : u ≤ 9223372036854775808) : numE true u = -(u : Int) := by
  unfold numE
  simp only [if_true]
  rw [IntKind.wrap_i64, IntKind.wrap_u64]; omega
theorem nR_of {s : List UInt8} {u : Nat} (hb : body s = decDigits u) (hu : u ≤ 9223372036854775808) : numR s = (numE (sgn s) u, true) := by
  have hl := dec_len u 18 (by omega)
  unfold numR
  rw [hb, if_neg (fun h => h.elim (dec_ne u) (fun h => by omega)), nv_dec]
theorem num_itoa (n : Int) (h : I64' n) : numR (itoa n) = (n, true) := by
  obtain ⟨h1, h2⟩ := h
  by_cases h0 : n < 0
  · have e : itoa n = 45 :: decDigits n.natAbs := by unfold itoa; rw [if_pos h0]
    rw [e]
    have hb : body (45 :: decDigits n.natAbs) = decDigits n.natAbs := by unfold body; rw [if_pos (.inl rfl)]; rfl
    have hs : sgn (45 :: decDigits n.natAbs) = true := rfl
    rw [nR_of hb (by omega), hs, nE_neg _ (by omega)]
    congr 1; omega
  · have e : itoa n = decDigits n.toNat := by unfold itoa; rw [if_neg h0]
    rw [e]
    obtain ⟨c, r, hcr⟩ := List.exists_cons_of_ne_nil (dec_ne n.toNat)
    have hc := dec_dig n.toNat c (by rw [hcr]; simp)
    have hne : ∀ k : UInt8, (k.toNat < 48 ∨ 57 < k.toNat) → c ≠ k := fun k hk e => by subst e; omega
    have hb : body (decDigits n.toNat) = decDigits n.toNat := by
      unfold body
      rw [hcr, if_neg (fun e => e.elim (fun e => hne 45 (by decide) (Option.some.inj e)) (fun e => hne 43 (by decide) (Option.some.inj e)))]
    have hs : sgn (decDigits n.toNat) = false := by
      unfold sgn
      rw [hcr]
      have := hne 45 (by decide)
      simpa using this
    rw [nR_of hb (by omega), hs, nE_pos _ (by omega)]
    congr 1; omega
theorem num_dist (n : Int) (h : I64' n) : numR (distT n) = (n, true) := by
  by_cases h0 : n < 0
  · have e : distT n = itoa n := by unfold distT; rw [if_pos h0]
    rw [e]; exact num_itoa n h
  · obtain ⟨h1, h2⟩ := h
    have e : distT n = 43 :: decDigits n.toNat := by unfold distT itoa; rw [if_neg h0, if_neg h0]
    rw [e]
    have hb : body (43 :: decDigits n.toNat) = decDigits n.toNat := by unfold body; rw [if_pos (.inr rfl)]; rfl
    have hs : sgn (43 :: decDigits n.toNat) = false := rfl
    rw [nR_of hb (by omega), hs, nE_pos _ (by omega)]
    congr 1; omega
set_option maxRecDepth 100000 in
theorem memb_dec : (∀ b : Nat, b < 16 → memB (baseT (b : Int) (-1) 1) = ((b : Int), -1, 1) ∧ memA (baseT (b : Int) (-1) 1) (lastS (baseT (b : Int) (-1) 1) (baseT (b : Int) (-1) 1).length) = (0, baseT (b : Int) (-1) 1)) ∧
    ∀ b : Nat, b < 16 → ∀ k : Nat, k < 16 → ∀ m ∈ ([1, 2, 4, 8] : List Int), memB (baseT (b : Int) (k : Int) m) = ((b : Int), (k : Int), m) ∧ memA (baseT (b : Int) (k : Int) m) (lastS (baseT (b : Int) (k : Int) m) (baseT (b : Int) (k : Int) m).length) = (0, baseT (b : Int) (k : Int) m) := by decide +kernel
theorem memb_of {mb mi ms : Int} (h : Plc mb mi ms) : memB (baseT mb mi ms) = (mb, mi, ms) ∧ memA (baseT mb mi ms) (lastS (baseT mb mi ms) (baseT mb mi ms).length) = (0, baseT mb mi ms) := by
  obtain ⟨⟨h1, h2⟩, h3⟩ := h
  obtain ⟨b, rfl⟩ := Int.eq_ofNat_of_zero_le h1
  rcases h3 with ⟨rfl, rfl⟩ | ⟨h4, h5, h6⟩
  · exact memb_dec.1 b (by omega)
  · obtain ⟨k, rfl⟩ := Int.eq_ofNat_of_zero_le h4
    exact memb_dec.2 b (by omega) k (by omega) ms h6
theorem mem_place {mb mi ms md : Int} (h : Plc mb mi ms) (hd : I64' md) : memE (placeT mb mi ms md) = (md, baseT mb mi ms) ∧ memB (memE (placeT mb mi ms md)).2 = (mb, mi, ms) := by
  have key : memE (placeT mb mi ms md) = (md, baseT mb mi ms) := by
    unfold memE
    have hi : inn (placeT mb mi ms md) = baseT mb mi ms ++ (if md = 0 then [] else distT md) := by rw [placeT_eq]; exact inner_eq _
    rw [hi]
    by_cases h0 : md = 0
    · rw [if_pos h0, List.append_nil, (memb_of h).2, h0]
    · rw [if_neg h0]
      obtain ⟨c, r, hcr, hc, hr⟩ := dist_cons md hd
      have hl : lastS (baseT mb mi ms ++ distT md) (baseT mb mi ms ++ distT md).length = ((baseT mb mi ms).length : Int) := by
        rw [hcr]
        refine lastS_app _ c r hc (fun b hb => ?_)
        have := hr b hb
        have e1 : b ≠ 43 := fun e => by subst e; revert this; decide
        have e2 : b ≠ 45 := fun e => by subst e; revert this; decide
        simp [pm, e1, e2]
      rw [hl]
      unfold memA
      rw [Int.toNat_natCast, List.drop_left, List.take_left, num_dist md hd, if_pos ⟨by omega, rfl⟩]
  exact ⟨key, by rw [key]; exact (memb_of h).1⟩
theorem spl_end (s : List UInt8) : ∀ n i fr : Nat, (∀ j, i ≤ j → j < s.length → s[j]? ≠ some 44) → spl s n i fr = [s.drop fr]
  | 0, _, _, _ => rfl
  | n + 1, i, fr, h => by
    unfold spl
    split
    · rename_i hlt
      rw [if_neg (fun e => h i (Nat.le_refl _) (by omega) e.1)]
      exact spl_end s n (i + 1) fr (fun j h1 h2 => h j (by omega) h2)
    · rfl
theorem spl_run (s : List UInt8) (m fr : Nat) (hm : m + 1 < s.length) (h44 : s[m]? = some 44) (h32 : s[m + 1]? = some 32) : ∀ n i : Nat, i ≤ m → m - i < n → (∀ j, i ≤ j → j < m → s[j]? ≠ some 44) → spl s n i fr = ((s.drop fr).take (m - fr)) :: spl s (n - (m - i) - 1) (m + 1) (m + 2)
  | 0, i, h1, h2, _ => by omega
  | n + 1, i, h1, h2, h => by
    rcases Nat.lt_or_ge i m with hlt | hge
    · conv => lhs; unfold spl
      rw [if_pos (by omega), if_neg (fun e => h i (Nat.le_refl _) hlt e.1), spl_run s m fr hm h44 h32 n (i + 1) (by omega) (by omega) (fun j h3 h4 => h j (by omega) h4)]
      congr 2; omega
    · obtain rfl : i = m := by omega
      conv => lhs; unfold spl
      rw [if_pos hm, if_pos ⟨h44, h32⟩]
      congr 2; omega
theorem spl_join (s : List UInt8) : ∀ (xs : List (List UInt8)) (x : List UInt8) (n i fr : Nat), (∀ z ∈ x :: xs, ∀ b ∈ z, b ≠ 44) → s.drop fr = join (x :: xs) [44, 32] → (i = fr ∨ (i + 1 = fr ∧ s[i]? = some 32)) → fr ≤ s.length → s.length ≤ n + i → spl s n i fr = x :: xs
  | [], x, n, i, fr, hx, hd, hi, hfl, hn => by
    rw [join_one] at hd
    rw [spl_end, hd]
    intro j h1 h2 e
    rcases Nat.lt_or_ge j fr with h3 | h3
    · rcases hi with h | ⟨h, h4⟩
      · omega
      · obtain rfl : j = i := by omega
        rw [h4] at e; cases e
    · have : (s.drop fr)[j - fr]? = some 44 := by rw [List.getElem?_drop, show fr + (j - fr) = j by omega]; exact e
      rw [hd] at this
      exact hx x List.mem_cons_self 44 (List.mem_of_getElem? this) rfl
  | y :: xs, x, n, i, fr, hx, hd, hi, hfl, hn => by
    rw [join_two] at hd
    have hlen : s.length = fr + (x.length + 2 + (join (y :: xs) [44, 32]).length) := by
      have := congrArg List.length hd
      simp only [List.length_drop, List.length_append, List.length_cons, List.length_nil] at this
      omega
    have at_ : ∀ j, s[fr + j]? = (x ++ [44, 32] ++ join (y :: xs) [44, 32])[j]? := fun j => by rw [← hd, List.getElem?_drop]
    have h44 : s[fr + x.length]? = some 44 := by rw [at_, List.append_assoc, List.getElem?_append_right (Nat.le_refl _), Nat.sub_self]; rfl
    have h32 : s[fr + x.length + 1]? = some 32 := by
      rw [Nat.add_assoc, at_, List.append_assoc, List.getElem?_append_right (by omega), Nat.add_sub_cancel_left]; rfl
    have hno : ∀ j, i ≤ j → j < fr + x.length → s[j]? ≠ some 44 := by
      intro j h1 h2 e
      rcases Nat.lt_or_ge j fr with h3 | h3
      · rcases hi with h | ⟨h, h4⟩
        · omega
        · obtain rfl : j = i := by omega
          rw [h4] at e; cases e
      · obtain ⟨q, rfl⟩ : ∃ q, j = fr + q := ⟨j - fr, by omega⟩
        rw [at_, List.append_assoc, List.getElem?_append_left (by omega)] at e
        exact hx x List.mem_cons_self 44 (List.mem_of_getElem? e) rfl
    rw [spl_run s (fr + x.length) fr (by omega) h44 h32 n i (by omega) (by omega) hno]
    have hd2 : s.drop (fr + x.length + 2) = join (y :: xs) [44, 32] := by
      rw [Nat.add_assoc, ← List.drop_drop, hd]
      have : (x ++ [44, 32]).length = x.length + 2 := by simp
      rw [← this, List.drop_left]
    have ht : (s.drop fr).take (fr + x.length - fr) = x := by
      rw [hd, Nat.add_sub_cancel_left, List.append_assoc, List.take_left]
    rw [ht, spl_join s xs y _ _ _ (fun z hz => hx z (List.mem_cons_of_mem _ hz)) hd2 (.inr ⟨rfl, h32⟩) (by omega) (by omega)]
theorem splR_join (xs : List (List UInt8)) (x : List UInt8) (h : ∀ z ∈ x :: xs, ∀ b ∈ z, b ≠ 44) : splR (join (x :: xs) [44, 32]) = x :: xs :=
  spl_join _ xs x _ 0 0 h (by rw [List.drop_zero]) (.inl rfl) (Nat.zero_le _) (Nat.le_refl _)
theorem regOf_reg {r : Int} (h : reg r = true) : regOf (regT r) = r := by
  have hr : 0 ≤ r ∧ r ≤ 15 := by simpa [reg] using h
  obtain ⟨n, rfl⟩ := Int.eq_ofNat_of_zero_le hr.1
  have key : ∀ n : Nat, n < 16 → regOf (regT (n : Int)) = (n : Int) := by decide +kernel
  exact key n (by omega)
theorem place_len {mb mi ms md : Int} : 1 < (placeT mb mi ms md).length := by
  rw [placeT_eq]; simp only [List.length_cons, List.length_append, List.length_nil]; omega
theorem setM_place (i : Ins) {mb mi ms md : Int} (h : Plc mb mi ms) (hd : I64' md) : setM i (placeT mb mi ms md) = { i with mb := mb, mi := mi, ms := ms, md := md } := by
  obtain ⟨h1, h2⟩ := mem_place h hd
  unfold setM
  rw [h2, h1]
end Go.Proofs.YtokcamgipnaoeaaGreatDoor.Ls
