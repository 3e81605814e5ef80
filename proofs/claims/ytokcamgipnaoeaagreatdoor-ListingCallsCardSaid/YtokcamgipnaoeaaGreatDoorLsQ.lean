/- Listing, plain: numbers told in digits are read again; the texts of operands are read as the operands. -/
import Derived.Test.YtokcamgipnaoeaaGreatDoorLsH
set_option linter.unusedVariables false
set_option linter.unusedSimpArgs false
namespace Go.Proofs.YtokcamgipnaoeaaGreatDoor.Ls
open Go Go.Lib

theorem pu_snoc (M : Nat) (c : UInt8) : ∀ (l : List UInt8) (acc : Nat), parseUintM M acc (l ++ [c]) = match parseUintM M acc l with | .ok v => parseUintM M v [c] | e => e
  | [], acc => rfl
  | a :: l, acc => by
    show parseUintM M acc (a :: (l ++ [c])) = _
    unfold parseUintM
    split
    · split
      · rfl
      · split
        · rfl
        · exact pu_snoc M c l _
    · rfl
theorem dec_ne (u : Nat) : decDigits u ≠ [] := by
  rw [decDigits]; split <;> simp
theorem dec_dig (u : Nat) : ∀ b ∈ decDigits u, 48 ≤ b.toNat ∧ b.toNat ≤ 57 := by
  induction u using Nat.strongRecOn with
  | _ u ih =>
    intro b hb
    rw [decDigits] at hb
    split at hb
    · rename_i h
      rw [List.mem_singleton] at hb; subst hb
      simp; omega
    · rename_i h
      rcases List.mem_append.1 hb with hb | hb
      · exact ih (u / 10) (by omega) b hb
      · rw [List.mem_singleton] at hb; subst hb
        simp; omega
theorem dec_parse (u : Nat) (h : u ≤ 18446744073709551615) : parseUintM 18446744073709551615 0 (decDigits u) = .ok u := by
  induction u using Nat.strongRecOn with
  | _ u ih =>
    rw [decDigits]
    split
    · rename_i h1
      unfold parseUintM
      have hc : (UInt8.ofNat (48 + u)).toNat = 48 + u := by simp; omega
      simp only [hc]
      rw [if_pos (by omega), if_neg (by omega), if_neg (by omega)]
      unfold parseUintM
      congr 1; omega
    · rename_i h1
      rw [pu_snoc, ih (u / 10) (by omega) (by omega)]
      simp only
      unfold parseUintM
      have hc : (UInt8.ofNat (48 + u % 10)).toNat = 48 + u % 10 := by simp; omega
      simp only [hc]
      rw [if_pos (by omega), if_neg (by omega), if_neg (by omega)]
      unfold parseUintM
      congr 1; omega
theorem p64 : (2 : Nat) ^ 64 - 1 = 18446744073709551615 := by decide
theorem p63 : (2 : Nat) ^ (64 - 1) = 9223372036854775808 := by decide
theorem pub (u : Nat) (h : u ≤ 18446744073709551615) : parseUintB 64 (decDigits u) = .ok u := by
  unfold parseUintB
  rw [if_neg (dec_ne u), p64]
  exact dec_parse u h
theorem pi_pos (n : Nat) (h : n ≤ 9223372036854775807) : parseIntB 64 (decDigits n) = .ok (n : Int) := by
  obtain ⟨c, r, he⟩ := List.exists_cons_of_ne_nil (dec_ne n)
  have hc := dec_dig n c (by rw [he]; simp)
  have hp := pub n (by omega)
  unfold parseIntB
  rw [he] at hp ⊢
  simp only
  rw [if_neg (by omega), hp]
  simp only
  rw [p63, if_neg (by omega), if_neg (by omega), if_neg (by omega)]
theorem pi_neg (n : Nat) (h : n ≤ 9223372036854775808) : parseIntB 64 (45 :: decDigits n) = .ok (-(n : Int)) := by
  have hp := pub n (by omega)
  have h45 : (45 : UInt8).toNat = 45 := rfl
  unfold parseIntB
  simp only [h45]
  rw [if_pos (.inr trivial), hp]
  simp only
  rw [p63, if_neg (by simp), if_neg (by simp; omega), if_pos trivial]
theorem pi_plus (n : Nat) (h : n ≤ 9223372036854775807) : parseIntB 64 (43 :: decDigits n) = .ok (n : Int) := by
  have hp := pub n (by omega)
  have h43 : (43 : UInt8).toNat = 43 := rfl
  unfold parseIntB
  simp only [h43]
  rw [if_pos (.inl trivial), hp]
  simp only
  rw [p63, if_neg (by simp; omega), if_neg (by simp), if_neg (by simp)]
theorem itoa_parse (n : Int) (h : I64' n) : parseIntB 64 (itoa n) = .ok n := by
  obtain ⟨h1, h2⟩ := h
  unfold itoa
  split
  · rw [pi_neg _ (by omega)]; congr 1; omega
  · rw [pi_pos _ (by omega)]; congr 1; omega
theorem dist_parse (n : Int) (h : I64' n) : parseIntB 64 (distT n) = .ok n := by
  unfold distT
  split
  · exact itoa_parse n h
  · rename_i h0
    obtain ⟨h1, h2⟩ := h
    unfold itoa
    rw [if_neg h0, pi_plus _ (by omega)]; congr 1; omega
theorem of_parse {l : List UInt8} {n : Int} (h : parseIntB 64 l = .ok n) : parOk l = true ∧ parI l = n := by
  unfold parOk parI; rw [h]; exact ⟨rfl, rfl⟩
/-- What stands for an operand when it is read: a number below nought is read as a distance. -/
def norm : Opd → Opd
  | .n x => if x < 0 then .j x else .n x
  | o => o
deriving instance DecidableEq for Opd
theorem regF_no (l : List UInt8) : ∀ (f r : Nat), (∀ k, r ≤ k → k < r + f → regT (k : Int) ≠ l) → regF l f r = -1
  | 0, _, _ => rfl
  | f + 1, r, h => by
    unfold regF
    rw [if_neg (h r (Nat.le_refl _) (by omega))]
    exact regF_no l f (r + 1) (fun k h1 h2 => h k (by omega) (by omega))
theorem reg_head : ∀ k : Nat, k < 16 → (regT (k : Int)).head? = some 114 := by decide
theorem regOf_no {l : List UInt8} (h : l.head? ≠ some 114) : regOf l = -1 :=
  regF_no l 16 0 (fun k _ hk e => h (by rw [← e]; exact reg_head k (by omega)))
theorem brk_no {l : List UInt8} (h : l.head? ≠ some 91) : brk l = false := by
  unfold brk hasPrefix
  cases l with
  | nil => rfl
  | cons a r =>
    have : ¬ (91 : UInt8) = a := fun e => h (by rw [← e]; rfl)
    simp [List.isPrefixOf, this]
theorem read_reg (r : Int) (h : reg r = true) : readR (regT r) = some (.r r) := by
  have hr : 0 ≤ r ∧ r ≤ 15 := by simpa [reg] using h
  obtain ⟨n, rfl⟩ := Int.eq_ofNat_of_zero_le hr.1
  have key : ∀ n : Nat, n < 16 → readR (regT (n : Int)) = some (.r (n : Int)) := by decide +kernel
  exact key n (by omega)
theorem read_j (l : List UInt8) (n : Int) (c : UInt8) (r : List UInt8) (hl : l = c :: r) (hc : c = 43 ∨ c = 45) (hp : parseIntB 64 l = .ok n) : readR l = some (.j n) := by
  obtain ⟨h1, h2⟩ := of_parse hp
  have hh : l.head? = some c := by rw [hl]; rfl
  unfold readR
  rw [regOf_no (by rw [hh]; rcases hc with rfl | rfl <;> decide), if_neg (by decide), brk_no (by rw [hh]; rcases hc with rfl | rfl <;> decide), if_neg (by decide), if_pos h1, h2]
  have h0 : l.getD 0 0 = c := by rw [hl]; rfl
  rw [h0, if_pos hc]
theorem read_n (l : List UInt8) (n : Int) (c : UInt8) (r : List UInt8) (hl : l = c :: r) (hc : 48 ≤ c.toNat ∧ c.toNat ≤ 57) (hp : parseIntB 64 l = .ok n) : readR l = some (.n n) := by
  obtain ⟨h1, h2⟩ := of_parse hp
  have hh : l.head? = some c := by rw [hl]; rfl
  have hne : ∀ k : UInt8, (k.toNat < 48 ∨ 57 < k.toNat) → c ≠ k := fun k hk e => by subst e; omega
  unfold readR
  rw [regOf_no (by rw [hh]; intro e; exact hne 114 (by decide) (Option.some.inj e)), if_neg (by decide), brk_no (by rw [hh]; intro e; exact hne 91 (by decide) (Option.some.inj e)), if_neg (by decide), if_pos h1, h2]
  have h0 : l.getD 0 0 = c := by rw [hl]; rfl
  rw [h0, if_neg (fun h => h.elim (hne 43 (by decide)) (hne 45 (by decide)))]
theorem read_num (n : Int) (h : I64' n) : readR (itoa n) = some (norm (.n n)) := by
  have hp := itoa_parse n h
  unfold norm
  simp only
  by_cases h0 : n < 0
  · rw [if_pos h0]
    exact read_j _ n 45 (decDigits n.natAbs) (by unfold itoa; rw [if_pos h0]) (.inr rfl) hp
  · rw [if_neg h0]
    have he : itoa n = decDigits n.toNat := by unfold itoa; rw [if_neg h0]
    obtain ⟨c, r, hcr⟩ := List.exists_cons_of_ne_nil (dec_ne n.toNat)
    exact read_n _ n c r (by rw [he, hcr]) (dec_dig n.toNat c (by rw [hcr]; simp)) hp
theorem read_dist (n : Int) (h : I64' n) : readR (distT n) = some (.j n) := by
  have hp := dist_parse n h
  by_cases h0 : n < 0
  · exact read_j _ n 45 (decDigits n.natAbs) (by unfold distT itoa; rw [if_pos h0, if_pos h0]) (.inr rfl) hp
  · exact read_j _ n 43 (itoa n) (by unfold distT; rw [if_neg h0]) (.inl rfl) hp
theorem lastS_app (a : List UInt8) (c : UInt8) (d : List UInt8) (hc : pm c = true) (hd : ∀ b ∈ d, pm b = false) : lastS (a ++ c :: d) (a ++ c :: d).length = (a.length : Int) := by
  rw [lastS_skip (a ++ c :: d) (a.length + 1) _ (by simp) (fun j h1 h2 => ?_)]
  · show (if pm ((a ++ c :: d).getD a.length 0) then (a.length : Int) else _) = _
    have : (a ++ c :: d).getD a.length 0 = c := by simp
    rw [this, hc]; rfl
  · refine hd _ ?_
    rw [List.length_append, List.length_cons] at h2
    rw [List.getD_eq_getElem?_getD, List.getElem?_append_right (by omega)]
    obtain ⟨m, hm⟩ : ∃ m, j - a.length = m + 1 := ⟨j - a.length - 1, by omega⟩
    rw [hm, List.getElem?_cons_succ, List.getElem?_eq_getElem (by omega)]
    exact List.getElem_mem _
end Go.Proofs.YtokcamgipnaoeaaGreatDoor.Ls
