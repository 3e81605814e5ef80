/- Plain, for ScanEach: a source has at most as many words as bytes; a comment and white ahead change nothing but places. No program in sight. -/
import Derived.Test.YtbackpcohkblfaaSc11
set_option linter.unusedVariables false
set_option linter.unusedSimpArgs false
namespace Go.Proofs.Ytbackpcohkblfaa
open Go Go.RowKit SL

def inW (k : Int) : Nat := if k = 3 ∨ k = 4 then 1 else 0
theorem endT_cnt (s : ByteArray) (k : Int) (f to : Nat) (b : Bool) : (endT s k f to b).1.length ≤ inW k := by
  unfold endT inW
  by_cases h3 : k = 3
  · simp [h3]
  · by_cases h4 : k = 4
    · rw [if_neg h3, if_pos h4, if_pos (show k = 3 ∨ k = 4 from .inr h4)]
      repeat' split
      all_goals simp
    · simp [h3, h4]
theorem runP_cnt (s : ByteArray) : ∀ (n p : Nat) (k : Int) (f : Nat), s.size - p = n → (runP s p k f).1.length ≤ n + inW k := by
  intro n
  induction n using Nat.strongRecOn with
  | _ n ih =>
    intro p k f hn
    have hw := decL_w ((Bl s).drop p)
    have e1 := endT_cnt s k f p false
    have e2 := endT_cnt s k f p (cm .eql (kindR (decL ((Bl s).drop p)).1) 3)
    have e3 := endT_cnt s k f s.size false
    have hk : inW k ≤ 1 := by unfold inW; split <;> simp
    rw [runP]
    split
    · rename_i hlt
      have i1 := ih (s.size - (p + (decL ((Bl s).drop p)).2)) (by omega) (p + (decL ((Bl s).drop p)).2)
      generalize endT s k f p false = E1 at *
      generalize endT s k f p (cm .eql (kindR (decL ((Bl s).drop p)).1) 3) = E2 at *
      obtain ⟨t1, x1⟩ := E1
      obtain ⟨t2, x2⟩ := E2
      simp only at e1 e2
      split
      · split
        · simp
        · rcases x1 with _ | x1 <;> (simp only; omega)
      · split
        · have := i1 k f rfl; omega
        · rcases x2 with _ | x2
          · simp only
            split
            · simp only; omega
            · split
              · have := i1 1 p rfl
                have h1 : inW 1 = 0 := rfl
                simp only [List.length_append, List.length_cons, List.length_nil]; omega
              · have := i1 (kindR (decL ((Bl s).drop p)).1) p rfl
                have h1 : inW (kindR (decL ((Bl s).drop p)).1) ≤ 1 := by unfold inW; split <;> simp
                simp only [List.length_append]; omega
          · simp only; omega
    · generalize endT s k f s.size false = E3 at *
      obtain ⟨t3, x3⟩ := E3
      simp only at e3
      rcases x3 with _ | x3 <;> (simp only; omega)
theorem words_le (s : ByteArray) : (runP s 0 1 0).1.length ≤ s.size := runP_cnt s s.size 0 1 0 (by simp)
/-! ### A comment and white ahead -/
theorem dec_ascii {c : UInt8} {r : List UInt8} (h : c.toNat < 128) : decL (c :: r) = (c.toNat, 1) := by
  have b0 : bt (c :: r) 0 = c.toNat := rfl
  unfold decL
  rw [b0]
  rw [if_pos h]
theorem hash_run {a : ByteArray} {n : Nat} (h : Bl a = [32, 35] ++ List.replicate n 120) : ∀ (m p f : Nat), a.size - p = m → 2 ≤ p → p ≤ a.size → runP a p 2 f = ([], a.size, 0) := by
  have hsz : a.size = n + 2 := by
    have := congrArg List.length h
    rw [bl_len] at this; simp at this; omega
  intro m
  induction m with
  | zero =>
    intro p f hm h2 hp
    rw [runP, dif_neg (by omega)]
    rfl
  | succ m ih =>
    intro p f hm h2 hp
    have hlt : p < a.size := by omega
    obtain ⟨q, rfl⟩ : ∃ q, p = q + 2 := ⟨p - 2, by omega⟩
    have hd : (Bl a).drop (q + 2) = 120 :: List.replicate (n - q - 1) 120 := by
      rw [h]
      show (List.replicate n 120).drop q = _
      have e : n - q = (n - q - 1) + 1 := by omega
      rw [List.drop_replicate, e, List.replicate_succ, Nat.add_sub_cancel]
    rw [runP, dif_pos hlt, hd, dec_ascii (by decide)]
    rw [if_neg (by decide), if_pos (by decide)]
    exact ih (q + 2 + 1) f (by omega) (by omega) (by omega)
theorem white_step {a : ByteArray} {p : Nat} {c : UInt8} {r : List UInt8} (h : (Bl a).drop p = c :: r) (hc : c = 32 ∨ c = 9) (f : Nat) : runP a p 1 f = runP a (p + 1) 1 p := by
  have hlt : p < a.size := by
    rcases Nat.lt_or_ge p a.size with h1 | h1
    · exact h1
    · rw [drop_all h1] at h; cases h
  conv => lhs; rw [runP, dif_pos hlt, h]
  rcases hc with rfl | rfl <;>
  · rw [dec_ascii (by decide), if_neg (by decide), if_neg (by decide)]
    have e : ∀ b, endT a 1 f p b = ([], none) := fun b => rfl
    rw [e]
    rfl
theorem pad_run {a : ByteArray} {n : Nat} (h : Bl a = [32, 35] ++ List.replicate n 120) : runP a 0 1 0 = ([], a.size, 0) := by
  have hsz : a.size = n + 2 := by
    have := congrArg List.length h
    rw [bl_len] at this; simp at this; omega
  rw [white_step (c := 32) (r := 35 :: List.replicate n 120) (by rw [h]; rfl) (.inl rfl)]
  have hd : (Bl a).drop 1 = 35 :: List.replicate n 120 := by rw [h]; rfl
  rw [runP, dif_pos (by omega), hd, dec_ascii (by decide), if_neg (by decide), if_neg (by decide)]
  have e : ∀ b, endT a 1 0 1 b = ([], none) := fun b => rfl
  rw [e]
  have hr := hash_run h n 2 1 (by omega) (Nat.le_refl _) (by omega)
  show ([] ++ (runP a 2 2 1).1, (runP a 2 2 1).2) = _
  rw [hr]; rfl
theorem tab_run {s b : ByteArray} (h : Bl b = [9] ++ Bl s) : runP b 0 1 0 = shR 1 (runP s 0 1 0) := by
  rw [white_step (c := 9) (r := Bl s) (by rw [h]; rfl) (.inr rfl), runP_white b (0 + 1) 0 1]
  exact join2 (r := [9]) h _ 0 1 0 rfl (Nat.zero_le _)
/-- A comment and white ahead change nothing but places. -/
theorem pad_law (s z : ByteArray) (n : Nat) (h : Bl z = [32, 35] ++ List.replicate n 120 ++ [10, 9] ++ Bl s) : ∃ m, (runP z 0 1 0).1 = (runP s 0 1 0).1.map (Tok.sh m) := by
  obtain ⟨a, ha⟩ : ∃ a : ByteArray, Bl a = [32, 35] ++ List.replicate n 120 := ⟨⟨([32, 35] ++ List.replicate n 120 : List UInt8).toArray⟩, by unfold Bl; simp⟩
  obtain ⟨b, hb⟩ : ∃ b : ByteArray, Bl b = [9] ++ Bl s := ⟨⟨([9] ++ Bl s).toArray⟩, by unfold Bl; simp⟩
  have e : z = a ++ ⟨#[10]⟩ ++ b := by
    apply bl_inj
    have : Bl (a ++ ⟨#[10]⟩ ++ b) = Bl a ++ 10 :: Bl b := by unfold Bl; simp
    rw [this, h, ha, hb]; simp
  rw [e, joins, pad_run ha, tab_run hb]
  refine ⟨a.size + 1 + 1, ?_⟩
  simp only [ne_eq, not_true, if_false, shR, List.nil_append, List.map_map]
  refine List.map_congr_left (fun t _ => ?_)
  simp [Tok.sh]; omega
end Go.Proofs.Ytbackpcohkblfaa
