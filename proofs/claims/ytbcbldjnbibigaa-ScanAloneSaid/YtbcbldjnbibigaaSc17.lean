/- Where words stand: plain. -/
import Derived.Test.YtbcbldjnbibigaaSc14
set_option linter.unusedVariables false
set_option linter.unusedSimpArgs false
namespace Go.Proofs.Ytbcbldjnbibigaa
open Go Go.RowKit SL
/-- Words one behind the other, from a place on, each the part of the source that it tells. -/
def Lay (s : ByteArray) : Nat → List Tok → Prop
  | _, [] => True
  | lo, t :: r => lo ≤ t.p ∧ t.p + t.t.size ≤ s.size ∧ t.t = s.extract t.p (t.p + t.t.size) ∧ Lay s (t.p + t.t.size) r
theorem Lay.mono {s : ByteArray} {lo lo' : Nat} {ts : List Tok} (h : Lay s lo' ts) (hl : lo ≤ lo') : Lay s lo ts := by
  cases ts with
  | nil => trivial
  | cons t r => exact ⟨Nat.le_trans hl h.1, h.2⟩
theorem ext_size (s : ByteArray) {f p : Nat} (hp : p ≤ s.size) : (s.extract f p).size = p - f := by
  rw [ByteArray.size_extract, Nat.min_eq_left hp]
theorem Lay.cons {s : ByteArray} {lo f p : Nat} {k : Int} {r : List Tok} (h1 : lo ≤ f) (h2 : f ≤ p) (hp : p ≤ s.size) (hr : Lay s p r) : Lay s lo (⟨k, s.extract f p, f⟩ :: r) := by
  have e : f + (s.extract f p).size = p := by rw [ext_size s hp]; omega
  refine ⟨h1, ?_, ?_, ?_⟩
  · simp only; omega
  · simp only; rw [e]
  · simp only; rw [e]; exact hr
theorem endT_cases (s : ByteArray) (k : Int) (f to : Nat) (b : Bool) : (∃ x, endT s k f to b = ([], x)) ∨ (∃ kd, endT s k f to b = ([⟨kd, s.extract f to, f⟩], none)) := by
  unfold endT
  repeat' split
  all_goals first | exact .inl ⟨_, rfl⟩ | exact .inr ⟨_, rfl⟩
theorem runP_lay (s : ByteArray) : ∀ (n p : Nat) (k : Int) (f : Nat), s.size - p = n → f ≤ p → p ≤ s.size → Lay s f (runP s p k f).1 := by
  intro n
  induction n using Nat.strongRecOn with
  | _ n ih =>
    intro p k f hn hf hp
    have hw := decL_w ((Bl s).drop p)
    rw [runP]
    split
    · rename_i hlt
      have hle := decL_le (drop_ne hlt)
      rw [List.length_drop, bl_len] at hle
      have i1 := ih (s.size - (p + (decL ((Bl s).drop p)).2)) (by omega) (p + (decL ((Bl s).drop p)).2)
      split
      · split
        · trivial
        · rcases endT_cases s k f p false with ⟨x, hx⟩ | ⟨kd, hx⟩
          · rw [hx]; rcases x with _ | x <;> trivial
          · rw [hx]; exact Lay.cons (Nat.le_refl _) hf hp trivial
      · split
        · exact i1 k f rfl (by omega) (by omega)
        · rcases endT_cases s k f p (cm .eql (kindR (decL ((Bl s).drop p)).1) 3) with ⟨x, hx⟩ | ⟨kd, hx⟩
          · rw [hx]
            rcases x with _ | x
            · simp only
              split
              · trivial
              · split
                · rw [runP_white s _ p (p + (decL ((Bl s).drop p)).2)]
                  exact Lay.cons (p := p + 1) hf (by omega) (by omega) ((i1 1 _ rfl (Nat.le_refl _) (by omega)).mono (by omega))
                · exact (i1 _ p rfl (by omega) (by omega)).mono hf
            · trivial
          · rw [hx]
            simp only
            split
            · exact Lay.cons (Nat.le_refl _) hf hp trivial
            · split
              · rw [runP_white s _ p (p + (decL ((Bl s).drop p)).2)]
                exact Lay.cons (Nat.le_refl _) hf hp (Lay.cons (p := p + 1) (Nat.le_refl _) (by omega) (by omega) ((i1 1 _ rfl (Nat.le_refl _) (by omega)).mono (by omega)))
              · exact Lay.cons (Nat.le_refl _) hf hp (i1 _ p rfl (by omega) (by omega))
    · rcases endT_cases s k f s.size false with ⟨x, hx⟩ | ⟨kd, hx⟩
      · rw [hx]; rcases x with _ | x <;> trivial
      · rw [hx]; exact Lay.cons (Nat.le_refl _) (by omega) (Nat.le_refl _) trivial
theorem allP_lay (s : ByteArray) : Lay s 0 (allP s).1 := by
  unfold allP
  split
  · trivial
  · split
    · trivial
    · exact runP_lay s _ 0 1 0 rfl (Nat.le_refl _) (Nat.zero_le _)
theorem Lay.at {s : ByteArray} : ∀ {ts : List Tok} {lo i : Nat} {t : Tok}, Lay s lo ts → ts[i]? = some t → lo ≤ t.p ∧ t.p + t.t.size ≤ s.size ∧ t.t = s.extract t.p (t.p + t.t.size)
  | [], _, _, _, _, h => by simp at h
  | u :: r, lo, 0, t, h, hi => by cases hi; exact ⟨h.1, h.2.1, h.2.2.1⟩
  | u :: r, lo, i + 1, t, h, hi => by
    have := Lay.at h.2.2.2 (by simpa using hi)
    exact ⟨by have := h.1; omega, this.2⟩
theorem Lay.next {s : ByteArray} : ∀ {ts : List Tok} {lo i : Nat} {t u : Tok}, Lay s lo ts → ts[i]? = some t → ts[i + 1]? = some u → t.p + t.t.size ≤ u.p
  | [], _, _, _, _, _, h, _ => by simp at h
  | a :: r, lo, 0, t, u, h, hi, hj => by
    cases hi
    cases r with
    | nil => simp at hj
    | cons b r => simp at hj; subst hj; exact h.2.2.2.1
  | a :: r, lo, i + 1, t, u, h, hi, hj => Lay.next h.2.2.2 (by simpa using hi) (by simpa using hj)
end Go.Proofs.Ytbcbldjnbibigaa
