/- Words told again: plain. -/
import Derived.Test.YtbcbldjnbibigaaSc17
set_option linter.unusedVariables false
set_option linter.unusedSimpArgs false
namespace Go.Proofs.Ytbcbldjnbibigaa
open Go Go.RowKit SL

def decF (b0 b1 b2 b3 : Nat) (c1 c2 c3 : Bool) : Nat × Nat :=
  if b0 < 128 then (b0, 1)
  else if b0 / 32 == 6 && c1 then
    (if (b0 % 32) * 64 + b1 % 64 ≥ 128 then ((b0 % 32) * 64 + b1 % 64, 2) else (65533, 1))
  else if b0 / 16 == 14 && c1 && c2 then
    (if decide ((b0 % 16) * 4096 + (b1 % 64) * 64 + b2 % 64 ≥ 2048) && Utf8.valid ((b0 % 16) * 4096 + (b1 % 64) * 64 + b2 % 64 : Nat) then ((b0 % 16) * 4096 + (b1 % 64) * 64 + b2 % 64, 3) else (65533, 1))
  else if b0 / 8 == 30 && c1 && c2 && c3 then
    (if decide ((b0 % 8) * 262144 + (b1 % 64) * 4096 + (b2 % 64) * 64 + b3 % 64 ≥ 65536) && Utf8.valid ((b0 % 8) * 262144 + (b1 % 64) * 4096 + (b2 % 64) * 64 + b3 % 64 : Nat) then
      ((b0 % 8) * 262144 + (b1 % 64) * 4096 + (b2 % 64) * 64 + b3 % 64, 4) else (65533, 1))
  else (65533, 1)
theorem decL_F (l : List UInt8) : decL l = decF (bt l 0) (bt l 1) (bt l 2) (bt l 3) (ct l 1) (ct l 2) (ct l 3) := rfl
theorem decF_agree {b0 b1 b2 b3 d1 d2 d3 c w : Nat} {c1 c2 c3 e1 e2 e3 : Bool} (h : decF b0 b1 b2 b3 c1 c2 c3 = (c, w)) (hg : (c, w) ≠ (65533, 1)) (h1 : 1 < w → d1 = b1 ∧ e1 = c1) (h2 : 2 < w → d2 = b2 ∧ e2 = c2) (h3 : 3 < w → d3 = b3 ∧ e3 = c3) :
    decF b0 d1 d2 d3 e1 e2 e3 = (c, w) := by
  unfold decF at h ⊢
  by_cases a0 : b0 < 128
  · rw [if_pos a0] at h ⊢; exact h
  · rw [if_neg a0] at h ⊢
    by_cases a1 : (b0 / 32 == 6 && c1) = true
    · rw [if_pos a1] at h
      split at h
      · rename_i hh
        obtain ⟨rfl, rfl⟩ := Prod.mk.inj h
        obtain ⟨rfl, rfl⟩ := h1 (by omega)
        rw [if_pos a1, if_pos hh]
      · exact absurd h.symm hg
    · rw [if_neg a1] at h
      by_cases a2 : (b0 / 16 == 14 && c1 && c2) = true
      · rw [if_pos a2] at h
        split at h
        · rename_i hh
          obtain ⟨rfl, rfl⟩ := Prod.mk.inj h
          obtain ⟨rfl, rfl⟩ := h1 (by omega)
          obtain ⟨rfl, rfl⟩ := h2 (by omega)
          rw [if_neg a1, if_pos a2, if_pos hh]
        · exact absurd h.symm hg
      · rw [if_neg a2] at h
        by_cases a3 : (b0 / 8 == 30 && c1 && c2 && c3) = true
        · rw [if_pos a3] at h
          split at h
          · rename_i hh
            obtain ⟨rfl, rfl⟩ := Prod.mk.inj h
            obtain ⟨rfl, rfl⟩ := h1 (by omega)
            obtain ⟨rfl, rfl⟩ := h2 (by omega)
            obtain ⟨rfl, rfl⟩ := h3 (by omega)
            rw [if_neg a1, if_neg a2, if_pos a3, if_pos hh]
          · exact absurd h.symm hg
        · rw [if_neg a3] at h
          exact absurd h.symm hg
theorem bt_app {l r : List UInt8} {k : Nat} (h : k < l.length) : bt (l ++ r) k = bt l k := by
  unfold bt; rw [List.getD_eq_getElem?_getD, List.getD_eq_getElem?_getD, List.getElem?_append_left h]
theorem ct_app {l r : List UInt8} {k : Nat} (h : k < l.length) : ct (l ++ r) k = ct l k := by
  unfold ct; rw [bt_app h, List.length_append]
  have : (k < l.length + r.length) = (k < l.length) := by simp [h]; omega
  simp only [this]
theorem decL_app {l : List UInt8} (r : List UInt8) (hl : l ≠ []) (hg : decL l ≠ (65533, 1)) : decL (l ++ r) = decL l := by
  have hle := decL_le hl
  have h0 : 0 < l.length := List.length_pos_iff.2 hl
  obtain ⟨⟨c, w⟩, hd⟩ : ∃ x, decL l = x := ⟨_, rfl⟩
  rw [hd] at hg hle ⊢
  simp only at hle
  rw [decL_F] at hd ⊢
  rw [bt_app h0]
  exact decF_agree hd hg (fun h => ⟨bt_app (by omega), ct_app (by omega)⟩) (fun h => ⟨bt_app (by omega), ct_app (by omega)⟩) (fun h => ⟨bt_app (by omega), ct_app (by omega)⟩)
theorem decL_take {l : List UInt8} (hl : l ≠ []) (hg : decL l ≠ (65533, 1)) : decL (l.take (decL l).2) = decL l := by
  have hle := decL_le hl
  have hw := decL_w l
  have e : l = l.take (decL l).2 ++ l.drop (decL l).2 := (List.take_append_drop _ _).symm
  have hlen : (l.take (decL l).2).length = (decL l).2 := by rw [List.length_take]; exact Nat.min_eq_left hle
  have b0 : ∀ k, k < (decL l).2 → bt (l.take (decL l).2) k = bt l k := fun k hk => by
    conv => rhs; rw [e]
    exact (bt_app (by omega)).symm
  have c0 : ∀ k, k < (decL l).2 → ct (l.take (decL l).2) k = ct l k := fun k hk => by
    conv => rhs; rw [e]
    exact (ct_app (by omega)).symm
  rw [decL_F (l.take (decL l).2), b0 0 hw]
  exact decF_agree (decL_F l).symm hg (fun h => ⟨b0 1 h, c0 1 h⟩) (fun h => ⟨b0 2 h, c0 2 h⟩) (fun h => ⟨b0 3 h, c0 3 h⟩)
/-- Runes that go on with a word of kind st. -/
inductive GoesL (st : Int) : List UInt8 → Prop
  | nil : GoesL st []
  | cons (l : List UInt8) : l ≠ [] → decL l ≠ (65533, 1) → goesR st (decL l).1 (kindR (decL l).1) = true → GoesL st (l.drop (decL l).2) → GoesL st l
theorem GoesL.snoc {st : Int} {x : List UInt8} (hx : x ≠ []) (h1 : decL x ≠ (65533, 1)) (h2 : (decL x).2 = x.length) (h3 : goesR st (decL x).1 (kindR (decL x).1) = true) {l : List UInt8} (h : GoesL st l) : GoesL st (l ++ x) := by
  induction h with
  | nil => exact .cons _ hx h1 h3 (by rw [List.nil_append, h2, List.drop_length]; exact .nil)
  | cons l hl hg hk _ ih =>
    have e := decL_app x hl hg
    refine .cons _ (by simp [hl]) (by rw [e]; exact hg) (by rw [e]; exact hk) ?_
    rw [e, List.drop_append_of_le_length (decL_le hl)]
    exact ih
/-- A word: its kind, its text. -/
def Wd (k : Int) (t : List UInt8) : Prop :=
  (k = 3 ∧ ∃ c, t = [c] ∧ c.toNat < 128 ∧ kindR (c.toNat : Int) = 5) ∨
  (t ≠ [] ∧ decL t ≠ (65533, 1) ∧ ((k = 1 ∧ kindR (decL t).1 = 3 ∧ GoesL 3 (t.drop (decL t).2)) ∨ (k = 2 ∧ kindR (decL t).1 = 4 ∧ GoesL 4 (t.drop (decL t).2) ∧ (numL t 0).isSome = true)))
/-- In the midst of a word. -/
def InW (s : ByteArray) (p : Nat) (k : Int) (f : Nat) : Prop :=
  (k = 3 ∨ k = 4) → ((Bl s).drop f).take (p - f) ≠ [] ∧ decL (((Bl s).drop f).take (p - f)) ≠ (65533, 1) ∧ kindR (decL (((Bl s).drop f).take (p - f))).1 = k ∧ GoesL k ((((Bl s).drop f).take (p - f)).drop (decL (((Bl s).drop f).take (p - f))).2)
theorem endT_wd {s : ByteArray} {p : Nat} {k : Int} {f : Nat} {b : Bool} (h : InW s p k f) : ∀ t ∈ (endT s k f p b).1, Wd t.k (Bl t.t) := by
  intro t ht
  unfold endT at ht
  split at ht
  · rename_i hk
    simp only [List.mem_singleton] at ht
    subst ht
    simp only
    rw [bl_extract]
    obtain ⟨g1, g2, g3, g4⟩ := h (.inl hk)
    subst hk
    exact .inr ⟨g1, g2, .inl ⟨rfl, g3, g4⟩⟩
  · split at ht
    · rename_i hk
      split at ht
      · rename_i hn
        split at ht
        · simp at ht
        · simp only [List.mem_singleton] at ht
          subst ht
          simp only
          rw [Bool.and_eq_true] at hn
          rw [bl_extract] at hn ⊢
          obtain ⟨g1, g2, g3, g4⟩ := h (.inr hk)
          subst hk
          exact .inr ⟨g1, g2, .inr ⟨rfl, g3, g4, hn.1⟩⟩
      · simp at ht
    · simp at ht
theorem drop_take_app {α : Type} (l : List α) {f p w : Nat} (h : f ≤ p) : (l.drop f).take (p + w - f) = (l.drop f).take (p - f) ++ (l.drop p).take w := by
  have e : p + w - f = (p - f) + w := by omega
  rw [e, List.take_add, List.drop_drop]
  congr 3
  omega
theorem runP_wd (s : ByteArray) : ∀ (n p : Nat) (k : Int) (f : Nat), s.size - p = n → f ≤ p → p ≤ s.size → InW s p k f → ∀ t ∈ (runP s p k f).1, Wd t.k (Bl t.t) := by
  intro n
  induction n using Nat.strongRecOn with
  | _ n ih =>
    intro p k f hn hf hp hI
    have hw := decL_w ((Bl s).drop p)
    rw [runP]
    split
    · rename_i hlt
      have hne := drop_ne hlt
      have hle := decL_le hne
      have hle2 := hle
      rw [List.length_drop, bl_len] at hle
      have i1 := ih (s.size - (p + (decL ((Bl s).drop p)).2)) (by omega) (p + (decL ((Bl s).drop p)).2)
      have E1 := endT_wd (b := false) hI
      have E2 := endT_wd (b := cm .eql (kindR (decL ((Bl s).drop p)).1) 3) hI
      split
      · split
        · simp
        · generalize endT s k f p false = X at *
          obtain ⟨t1, x⟩ := X
          rcases x with _ | x <;> exact E1
      · rename_i hbad
        have htk := decL_take hne hbad
        have hx0 : ((Bl s).drop p).take (decL ((Bl s).drop p)).2 ≠ [] := by
          intro e
          have := congrArg List.length e
          rw [List.length_take, List.length_nil] at this; omega
        have hxl : (((Bl s).drop p).take (decL ((Bl s).drop p)).2).length = (decL ((Bl s).drop p)).2 := by rw [List.length_take]; exact Nat.min_eq_left hle2
        split
        · rename_i hg
          refine i1 k f rfl (by omega) (by omega) (fun hk => ?_)
          obtain ⟨g1, g2, g3, g4⟩ := hI hk
          rw [drop_take_app _ hf]
          have e := decL_app (((Bl s).drop p).take (decL ((Bl s).drop p)).2) g1 g2
          refine ⟨by simp [g1], by rw [e]; exact g2, by rw [e]; exact g3, ?_⟩
          rw [e, List.drop_append_of_le_length (decL_le g1)]
          exact GoesL.snoc hx0 (by rw [htk]; exact hbad) (by rw [htk, hxl]) (by rw [htk]; exact hg) g4
        · have hnew : ∀ kd : Int, kindR (decL ((Bl s).drop p)).1 = kd → InW s (p + (decL ((Bl s).drop p)).2) kd p := fun kd hkd _ => by
            have e : p + (decL ((Bl s).drop p)).2 - p = (decL ((Bl s).drop p)).2 := by omega
            rw [e, htk]
            refine ⟨hx0, hbad, hkd, ?_⟩
            rw [List.drop_eq_nil_of_le (by rw [hxl]; exact Nat.le_refl _)]
            exact .nil
          have hwhite : ∀ q g, InW s q 1 g := fun q g h => by rcases h with h | h <;> cases h
          generalize endT s k f p (cm .eql (kindR (decL ((Bl s).drop p)).1) 3) = X at *
          obtain ⟨t1, x⟩ := X
          rcases x with _ | x
          · simp only at E2 ⊢
            split
            · exact E2
            · split
              · rename_i h5
                intro t ht
                simp only [List.mem_append, List.mem_singleton] at ht
                rcases ht with (ht | ht) | ht
                · exact E2 t ht
                · subst ht
                  refine .inl ⟨rfl, ?_⟩
                  have hlo : (decL ((Bl s).drop p)).1 < 128 := by
                    rcases Nat.lt_or_ge (decL ((Bl s).drop p)).1 128 with h | h
                    · exact h
                    · exfalso
                      have hv := decL_ok ((Bl s).drop p)
                      have hl := let_big (r := ((decL ((Bl s).drop p)).1 : Int)) (by omega) hv
                      unfold kindR at h5
                      rw [hl] at h5
                      split at h5
                      · cases h5
                      · split at h5
                        · cases h5
                        · simp at h5
                  obtain ⟨c, r, hcr⟩ : ∃ c r, (Bl s).drop p = c :: r := by
                    cases h : (Bl s).drop p with
                    | nil => exact absurd h hne
                    | cons c r => exact ⟨c, r, rfl⟩
                  have hc : c.toNat < 128 ∧ (decL ((Bl s).drop p)).1 = c.toNat := by
                    rw [hcr] at hlo ⊢
                    have hb0 : bt (c :: r) 0 = c.toNat := rfl
                    have hb : decL (c :: r) = decF (bt (c :: r) 0) (bt (c :: r) 1) (bt (c :: r) 2) (bt (c :: r) 3) (ct (c :: r) 1) (ct (c :: r) 2) (ct (c :: r) 3) := decL_F _
                    rw [hb0] at hb
                    rcases Nat.lt_or_ge c.toNat 128 with h | h
                    · refine ⟨h, ?_⟩; rw [hb]; unfold decF; rw [if_pos h]
                    · exfalso
                      rw [hb] at hlo
                      unfold decF at hlo
                      rw [if_neg (by omega)] at hlo
                      repeat' split at hlo
                      all_goals first
                        | (simp only at hlo; omega)
                        | (rename_i hh; simp only [Bool.and_eq_true, decide_eq_true_eq] at hh; simp only at hlo; omega)
                  refine ⟨c, ?_, hc.1, by rw [← hc.2]; exact h5⟩
                  simp only
                  rw [bl_extract, show p + 1 - p = 1 by omega, hcr]; rfl
                · exact i1 1 p rfl (by omega) (by omega) (hwhite _ _) t ht
              · intro t ht
                rcases List.mem_append.1 ht with ht | ht
                · exact E2 t ht
                · exact i1 _ p rfl (by omega) (by omega) (hnew _ rfl) t ht
          · exact E2
    · have E3 := endT_wd (b := false) (p := s.size) (k := k) (f := f) (s := s) (by
        have : p = s.size := by omega
        rw [← this]; exact hI)
      generalize endT s k f s.size false = X at *
      obtain ⟨t1, x⟩ := X
      rcases x with _ | x <;> exact E3
theorem allP_wd (s : ByteArray) : ∀ t ∈ (allP s).1, Wd t.k (Bl t.t) := by
  unfold allP
  split
  · simp
  · split
    · simp
    · exact runP_wd s _ 0 1 0 rfl (Nat.le_refl _) (Nat.zero_le _) (fun h => by rcases h with h | h <;> cases h)
end Go.Proofs.Ytbcbldjnbibigaa
