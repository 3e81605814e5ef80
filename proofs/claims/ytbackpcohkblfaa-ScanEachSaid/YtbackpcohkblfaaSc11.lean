/- Two sources with a line feed between: what a run tells, plain. -/
import Derived.Test.YtbackpcohkblfaaSc8
set_option linter.unusedVariables false
set_option linter.unusedSimpArgs false
namespace Go.Proofs.Ytbackpcohkblfaa
open Go Go.RowKit SL

theorem runP_white (s : ByteArray) (p f f' : Nat) : runP s p 1 f = runP s p 1 f' := by
  have e : ∀ to b g, endT s 1 g to b = ([], none) := fun to b g => by unfold endT; rw [if_neg (by decide), if_neg (by decide)]
  have g : ∀ r kd, goesR 1 r kd = false := fun r kd => by unfold goesR; rw [if_neg (by decide), if_neg (by decide), if_neg (by decide)]
  rw [runP]
  conv => rhs; rw [runP]
  simp only [e, g]
  rfl
theorem decL_lf : ∀ (l r : List UInt8), l ≠ [] → decL (l ++ 10 :: r) = decL l
  | [], r, h => absurd rfl h
  | [x], r, _ => by simp [decL, bt, ct]
  | [x, y], r, _ => by simp [decL, bt, ct]
  | [x, y, z], r, _ => by simp [decL, bt, ct]
  | x :: y :: z :: w :: l, r, _ => by simp [decL, bt, ct]
theorem endT_err {s : ByteArray} {k : Int} {f to : Nat} {b : Bool} {ts : List Tok} {a : Nat} {e : Int} (h : endT s k f to b = (ts, some (a, e))) : e ≠ 0 ∧ ts = [] := by
  unfold endT at h
  repeat' split at h
  all_goals
    simp only [Prod.mk.injEq, Option.some.injEq, reduceCtorEq, and_false] at h
  all_goals
    obtain ⟨h1, h2, h3⟩ := h
    subst h3
    exact ⟨by decide, h1.symm⟩
theorem ext_left {a s : ByteArray} {r : List UInt8} (h : Bl s = Bl a ++ r) {f p : Nat} (hp : p ≤ a.size) : s.extract f p = a.extract f p := by
  apply bl_inj
  rw [bl_extract, bl_extract, h]
  rcases Nat.lt_or_ge f a.size with hf | hf
  · rw [List.drop_append_of_le_length (by rw [bl_len]; omega), List.take_append_of_le_length (by rw [List.length_drop, bl_len]; omega)]
  · have : p - f = 0 := by omega
    rw [this, List.take_zero, List.take_zero]
theorem endT_left {a s : ByteArray} {r : List UInt8} (h : Bl s = Bl a ++ r) (k : Int) {f p : Nat} (hp : p ≤ a.size) (b : Bool) : endT s k f p b = endT a k f p b := by
  unfold endT; rw [ext_left h hp]
theorem join1 {a s : ByteArray} {r : List UInt8} (h : Bl s = Bl a ++ 10 :: r) : ∀ (n p : Nat) (k : Int) (f : Nat), a.size - p = n → p ≤ a.size →
    runP s p k f = if (runP a p k f).2.2 ≠ 0 then runP a p k f else ((runP a p k f).1 ++ (runP s (a.size + 1) 1 0).1, (runP s (a.size + 1) 1 0).2) := by
  have hsz : a.size < s.size := by
    have := congrArg List.length h
    rw [List.length_append, bl_len, bl_len, List.length_cons] at this; omega
  intro n
  induction n using Nat.strongRecOn with
  | _ n ih =>
    intro p k f hn hp
    have hps : p < s.size := by omega
    rcases Nat.lt_or_ge p a.size with hlt | hge
    · have hne := drop_ne hlt
      have hdd : (Bl s).drop p = (Bl a).drop p ++ 10 :: r := by rw [h, List.drop_append_of_le_length (by rw [bl_len]; omega)]
      have hdec : decL ((Bl s).drop p) = decL ((Bl a).drop p) := by rw [hdd, decL_lf _ _ hne]
      have hw := decL_w ((Bl a).drop p)
      have hle := decL_le hne
      rw [List.length_drop, bl_len] at hle
      have hRa : runP a p k f = runP a p k f := rfl
      have hRs : runP s p k f = runP s p k f := rfl
      conv at hRa => rhs; rw [runP, dif_pos hlt]
      conv at hRs => rhs; rw [runP, dif_pos hps, hdec]
      rw [hRs]
      generalize decL ((Bl a).drop p) = d at *
      obtain ⟨c, wd⟩ := d
      simp only at hRa hw hle ⊢
      rw [endT_left h k hp, endT_left h k hp]
      by_cases hb : (c, wd) = (65533, 1)
      · rw [if_pos hb] at hRa ⊢
        by_cases hk : k = 2
        · rw [if_pos hk] at hRa ⊢
          rw [hRa]; rfl
        · rw [if_neg hk] at hRa ⊢
          obtain ⟨⟨ts, er⟩, hE⟩ : ∃ x, endT a k f p false = x := ⟨_, rfl⟩
          rw [hE] at hRa ⊢
          rcases er with _ | ⟨ea, ee⟩
          · rw [hRa]; rfl
          · have := (endT_err hE).1
            rw [hRa]; simp [this]
      · rw [if_neg hb] at hRa ⊢
        by_cases hg : goesR k (c : Int) (kindR (c : Int)) = true
        · rw [if_pos hg] at hRa ⊢
          rw [hRa]
          exact ih _ (by omega) (p + wd) k f rfl (by omega)
        · rw [if_neg hg] at hRa ⊢
          obtain ⟨⟨ts, er⟩, hE⟩ : ∃ x, endT a k f p (cm .eql (kindR (c : Int)) 3) = x := ⟨_, rfl⟩
          rw [hE] at hRa ⊢
          rcases er with _ | ⟨ea, ee⟩
          · simp only at hRa ⊢
            by_cases h0 : kindR (c : Int) = 0
            · rw [if_pos h0] at hRa ⊢
              rw [hRa]; rfl
            · rw [if_neg h0] at hRa ⊢
              by_cases h5 : kindR (c : Int) = 5
              · rw [if_pos h5] at hRa ⊢
                have hi := ih _ (by omega) (p + wd) 1 p rfl (by omega)
                rw [ext_left h (show p + 1 ≤ a.size by omega), hi, hRa]
                generalize runP a (p + wd) 1 p = X
                obtain ⟨x1, x2, x3⟩ := X
                by_cases hx : x3 = 0
                · simp [hx]
                · simp [hx]
              · rw [if_neg h5] at hRa ⊢
                have hi := ih _ (by omega) (p + wd) (kindR (c : Int)) p rfl (by omega)
                rw [hi, hRa]
                generalize runP a (p + wd) (kindR (c : Int)) p = X
                obtain ⟨x1, x2, x3⟩ := X
                by_cases hx : x3 = 0
                · simp [hx]
                · simp [hx]
          · have := (endT_err hE).1
            simp only at hRa ⊢
            rw [hRa]; simp [this]
    · obtain rfl : p = a.size := by omega
      have hdec : decL ((Bl s).drop a.size) = (10, 1) := by
        rw [h, ← bl_len a, List.drop_left]
        have e0 : bt (10 :: r) 0 = 10 := rfl
        unfold decL; rw [e0]; rfl
      have hRa : runP a a.size k f = runP a a.size k f := rfl
      have hRs : runP s a.size k f = runP s a.size k f := rfl
      conv at hRa => rhs; rw [runP, dif_neg (by omega)]
      conv at hRs => rhs; rw [runP, dif_pos hsz, hdec]
      rw [if_neg (by simp)] at hRs
      have hkd : kindR ((10 : Nat) : Int) = 1 := rfl
      have hg : goesR k ((10 : Nat) : Int) 1 = false := by
        unfold goesR
        repeat' split
        all_goals rfl
      simp only [hkd, hg, Bool.false_eq_true, if_false] at hRs
      rw [endT_left h k (Nat.le_refl _)] at hRs
      have hc : cm .eql (1 : Int) 3 = false := rfl
      rw [hc] at hRs
      rw [hRs, hRa]
      obtain ⟨⟨ts, er⟩, hE⟩ : ∃ x, endT a k f a.size false = x := ⟨_, rfl⟩
      rw [hE]
      rcases er with _ | ⟨ea, ee⟩
      · simp [runP_white s (a.size + 1) a.size 0]
      · have := (endT_err hE).1
        simp [this]
def Tok.sh (m : Nat) (t : Tok) : Tok := ⟨t.k, t.t, m + t.p⟩
def shR (m : Nat) (x : List Tok × Nat × Int) : List Tok × Nat × Int := (x.1.map (Tok.sh m), m + x.2.1, x.2.2)
theorem ext_right {b s : ByteArray} {r : List UInt8} (h : Bl s = r ++ Bl b) (f p : Nat) : s.extract (r.length + f) (r.length + p) = b.extract f p := by
  apply bl_inj
  have e : r.length + p - (r.length + f) = p - f := by omega
  rw [bl_extract, bl_extract, h, e, ← List.drop_drop, List.drop_left]
def shE (m : Nat) : Option (Nat × Int) → Option (Nat × Int)
  | none => none
  | some x => some (m + x.1, x.2)
theorem endT_right {b s : ByteArray} {r : List UInt8} (h : Bl s = r ++ Bl b) (k : Int) (f p : Nat) (bh : Bool) : endT s k (r.length + f) (r.length + p) bh = ((endT b k f p bh).1.map (Tok.sh r.length), shE r.length (endT b k f p bh).2) := by
  unfold endT
  rw [ext_right h]
  repeat' split
  all_goals simp [Tok.sh, shE]
theorem join2 {b s : ByteArray} {r : List UInt8} (h : Bl s = r ++ Bl b) : ∀ (n q : Nat) (k : Int) (f : Nat), b.size - q = n → q ≤ b.size →
    runP s (r.length + q) k (r.length + f) = shR r.length (runP b q k f) := by
  have hsz : s.size = r.length + b.size := by
    have := congrArg List.length h
    rw [List.length_append, bl_len, bl_len] at this; exact this
  intro n
  induction n using Nat.strongRecOn with
  | _ n ih =>
    intro q k f hn hq
    have hRb : runP b q k f = runP b q k f := rfl
    have hRs : runP s (r.length + q) k (r.length + f) = runP s (r.length + q) k (r.length + f) := rfl
    have hdd : (Bl s).drop (r.length + q) = (Bl b).drop q := by rw [h, ← List.drop_drop, List.drop_left]
    rcases Nat.lt_or_ge q b.size with hlt | hge
    · have hne := drop_ne hlt
      have hw := decL_w ((Bl b).drop q)
      have hle := decL_le hne
      rw [List.length_drop, bl_len] at hle
      conv at hRb => rhs; rw [runP, dif_pos hlt]
      conv at hRs => rhs; rw [runP, dif_pos (by omega), hdd]
      rw [hRs]
      generalize decL ((Bl b).drop q) = d at *
      obtain ⟨c, wd⟩ := d
      simp only at hRb hw hle ⊢
      rw [endT_right h k f q, endT_right h k f q]
      have ea : ∀ x, r.length + q + x = r.length + (q + x) := fun x => by omega
      by_cases hb : (c, wd) = (65533, 1)
      · rw [if_pos hb] at hRb ⊢
        by_cases hk : k = 2
        · rw [if_pos hk] at hRb ⊢
          rw [hRb]; rfl
        · rw [if_neg hk] at hRb ⊢
          obtain ⟨⟨ts, er⟩, hE⟩ : ∃ x, endT b k f q false = x := ⟨_, rfl⟩
          rw [hE] at hRb ⊢
          rcases er with _ | ⟨ea, ee⟩
          · rw [hRb]; rfl
          · rw [hRb]; rfl
      · rw [if_neg hb] at hRb ⊢
        by_cases hg : goesR k (c : Int) (kindR (c : Int)) = true
        · rw [if_pos hg] at hRb ⊢
          rw [hRb, ea]
          exact ih _ (by omega) (q + wd) k f rfl (by omega)
        · rw [if_neg hg] at hRb ⊢
          obtain ⟨⟨ts, er⟩, hE⟩ : ∃ x, endT b k f q (cm .eql (kindR (c : Int)) 3) = x := ⟨_, rfl⟩
          rw [hE] at hRb ⊢
          rcases er with _ | ⟨ea2, ee⟩
          · simp only [shE] at hRb ⊢
            by_cases h0 : kindR (c : Int) = 0
            · rw [if_pos h0] at hRb ⊢
              rw [hRb]; rfl
            · rw [if_neg h0] at hRb ⊢
              by_cases h5 : kindR (c : Int) = 5
              · rw [if_pos h5] at hRb ⊢
                have hi := ih _ (by omega) (q + wd) 1 q rfl (by omega)
                rw [ea, ea, ext_right h, hi, hRb]
                simp [shR, Tok.sh]
              · rw [if_neg h5] at hRb ⊢
                have hi := ih _ (by omega) (q + wd) (kindR (c : Int)) q rfl (by omega)
                rw [ea, hi, hRb]
                simp [shR]
          · simp only [shE] at hRb ⊢
            rw [hRb]; rfl
    · obtain rfl : q = b.size := by omega
      conv at hRb => rhs; rw [runP, dif_neg (by omega)]
      conv at hRs => rhs; rw [runP, dif_neg (by omega), hsz]
      rw [endT_right h k f b.size] at hRs
      rw [hRs, hRb]
      obtain ⟨⟨ts, er⟩, hE⟩ : ∃ x, endT b k f b.size false = x := ⟨_, rfl⟩
      rw [hE]
      rcases er with _ | ⟨ea, ee⟩ <;> rfl
/-- Two sources with a line feed between. -/
theorem joins (a b : ByteArray) : runP (a ++ ⟨#[10]⟩ ++ b) 0 1 0 = if (runP a 0 1 0).2.2 ≠ 0 then runP a 0 1 0 else
    ((runP a 0 1 0).1 ++ (runP b 0 1 0).1.map (Tok.sh (a.size + 1)), a.size + 1 + (runP b 0 1 0).2.1, (runP b 0 1 0).2.2) := by
  have h1 : Bl (a ++ ⟨#[10]⟩ ++ b) = Bl a ++ 10 :: Bl b := by unfold Bl; simp
  have h2 : Bl (a ++ ⟨#[10]⟩ ++ b) = (Bl a ++ [10]) ++ Bl b := by rw [h1]; simp
  have hl : (Bl a ++ [10]).length = a.size + 1 := by rw [List.length_append, bl_len]; rfl
  have j1 := join1 h1 _ 0 1 0 rfl (Nat.zero_le _)
  have j2 := join2 h2 _ 0 1 0 rfl (Nat.zero_le _)
  rw [hl] at j2
  have j3 : runP (a ++ ⟨#[10]⟩ ++ b) (a.size + 1) 1 0 = shR (a.size + 1) (runP b 0 1 0) := by
    rw [runP_white _ _ 0 (a.size + 1)]; exact j2
  rw [j1, j3]
  rfl
end Go.Proofs.Ytbackpcohkblfaa
