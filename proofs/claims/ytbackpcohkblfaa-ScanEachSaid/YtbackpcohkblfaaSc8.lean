/- Runes that are none; what a run over a source tells, as a plain function. -/
import Derived.Test.YtbackpcohkblfaaSc7
set_option linter.unusedVariables false
set_option linter.unusedSimpArgs false
namespace Go.Proofs.Ytbackpcohkblfaa
open Go Go.RowKit SL

theorem bl_inj {x y : ByteArray} (h : Bl x = Bl y) : x = y := by
  cases x; cases y
  unfold Bl at h
  simp only [ByteArray.mk.injEq]
  exact Array.toList_inj.1 h
theorem seq_bl (x y : ByteArray) : seq x y = decide (Bl x = Bl y) := by
  unfold seq
  rw [ByteArray.toList_eq, ByteArray.toList_eq, Bool.eq_iff_iff]
  simp
theorem bl_extract (s : ByteArray) (a b : Nat) : Bl (s.extract a b) = ((Bl s).drop a).take (b - a) := by
  unfold Bl
  simp only [ByteArray.data_extract, Array.toList_extract, List.extract_eq_take_drop]
def bad3 : ByteArray := ⟨#[239, 191, 189]⟩
theorem hasP_bl (s : ByteArray) (p : Nat) : hasP (s.extract p s.size) bad3 = decide (((Bl s).drop p).take 3 = [239, 191, 189]) := by
  unfold hasP
  rw [seq_bl, bl_extract, bl_extract]
  have e1 : (s.extract p s.size).size = s.size - p := by rw [ByteArray.size_extract]; omega
  have e2 : Bl bad3 = [239, 191, 189] := rfl
  have e3 : bad3.size = 3 := rfl
  have e4 : ((Bl s).drop p).take (s.size - p) = (Bl s).drop p := List.take_of_length_le (by rw [List.length_drop, bl_len]; omega)
  rw [e1, e2, e3, List.drop_zero, e4]
  by_cases h : ((Bl s).drop p).take 3 = [239, 191, 189]
  · have := congrArg List.length h
    rw [List.length_take, List.length_drop, bl_len] at this
    have h2 : 3 ≤ s.size - p := by simp at this; omega
    simp [h, h2]
  · simp [h]
theorem bt_cons (x : UInt8) (l : List UInt8) (k : Nat) : bt (x :: l) (k + 1) = bt l k := by unfold bt; simp
theorem bad_take {r : List UInt8} : decL (239 :: 191 :: 189 :: r) = (65533, 3) := by
  have b0 : bt (239 :: 191 :: 189 :: r) 0 = 239 := rfl
  have b1 : bt (239 :: 191 :: 189 :: r) 1 = 191 := rfl
  have b2 : bt (239 :: 191 :: 189 :: r) 2 = 189 := rfl
  have c1 : ct (239 :: 191 :: 189 :: r) 1 = true := by unfold ct; rw [b1]; simp
  have c2 : ct (239 :: 191 :: 189 :: r) 2 = true := by unfold ct; rw [b2]; simp
  unfold decL
  rw [b0, b1, b2, c1, c2]
  simp [Utf8.valid]
theorem take3 {l : List UInt8} (h : l.take 3 = [239, 191, 189]) : ∃ r, l = 239 :: 191 :: 189 :: r := by
  refine ⟨l.drop 3, ?_⟩
  have := List.take_append_drop 3 l
  rw [h] at this
  exact this.symm
set_option maxRecDepth 100000 in
theorem bad_cases {l : List UInt8} {w : Nat} (h : decL l = (65533, w)) : (w = 1 ∧ ¬ l.take 3 = [239, 191, 189]) ∨ (w = 3 ∧ l.take 3 = [239, 191, 189]) := by
  by_cases ht : l.take 3 = [239, 191, 189]
  · obtain ⟨r, rfl⟩ := take3 ht
    rw [bad_take] at h
    cases h
    exact .inr ⟨rfl, ht⟩
  · refine .inl ⟨?_, ht⟩
    have hb : ∀ k, bt l k < 256 := fun k => by unfold bt; exact UInt8.toNat_lt _
    have h0 := hb 0; have h1 := hb 1; have h2 := hb 2; have h3 := hb 3
    unfold decL at h
    split at h
    · simp only [Prod.mk.injEq] at h; omega
    · split at h
      · split at h
        · simp only [Prod.mk.injEq] at h; omega
        · simp only [Prod.mk.injEq] at h; omega
      · split at h
        · rename_i hc
          split at h
          · exfalso
            simp only [Bool.and_eq_true, beq_iff_eq, ct, decide_eq_true_eq] at hc
            simp only [Prod.mk.injEq] at h
            obtain ⟨⟨q0, q1, q2⟩, q3, q4⟩ := hc
            have e0 : bt l 0 = 239 := by omega
            have e1 : bt l 1 = 191 := by omega
            have e2 : bt l 2 = 189 := by omega
            match l, q3, e0, e1, e2 with
            | a :: b :: c :: r, _, e0, e1, e2 =>
              have a0 : a = 239 := UInt8.toNat_inj.1 e0
              have a1 : b = 191 := UInt8.toNat_inj.1 e1
              have a2 : c = 189 := UInt8.toNat_inj.1 e2
              subst a0; subst a1; subst a2
              exact ht rfl
          · simp only [Prod.mk.injEq] at h; omega
        · split at h
          · split at h
            · rename_i hc
              simp only [Bool.and_eq_true, decide_eq_true_eq] at hc
              simp only [Prod.mk.injEq] at h; omega
            · simp only [Prod.mk.injEq] at h; omega
          · simp only [Prod.mk.injEq] at h; omega
/-- What a run tells from a place on, in a word of kind k that begins at f: words, where it ends, its error. -/
def runP (s : ByteArray) (p : Nat) (k : Int) (f : Nat) : List Tok × Nat × Int :=
  if h : p < s.size then
    if decL ((Bl s).drop p) = (65533, 1) then
      (if k = 2 then ([], p, 4) else match endT s k f p false with
        | (ts, none) => (ts, p, 4)
        | (ts, some x) => (ts, x))
    else if goesR k (decL ((Bl s).drop p)).1 (kindR (decL ((Bl s).drop p)).1) = true then runP s (p + (decL ((Bl s).drop p)).2) k f
    else match endT s k f p (cm .eql (kindR (decL ((Bl s).drop p)).1) 3) with
      | (ts, some x) => (ts, x)
      | (ts, none) =>
        if kindR (decL ((Bl s).drop p)).1 = 0 then (ts, p, 7)
        else if kindR (decL ((Bl s).drop p)).1 = 5 then
          ((ts ++ [⟨3, s.extract p (p + 1), p⟩]) ++ (runP s (p + (decL ((Bl s).drop p)).2) 1 p).1, (runP s (p + (decL ((Bl s).drop p)).2) 1 p).2)
        else (ts ++ (runP s (p + (decL ((Bl s).drop p)).2) (kindR (decL ((Bl s).drop p)).1) p).1, (runP s (p + (decL ((Bl s).drop p)).2) (kindR (decL ((Bl s).drop p)).1) p).2)
  else match endT s k f s.size false with
    | (ts, none) => (ts, s.size, 0)
    | (ts, some x) => (ts, x)
termination_by s.size - p
decreasing_by
  all_goals
    have := decL_w ((Bl s).drop p)
    omega
theorem kindR_le (r : Int) : kindR r = 0 ∨ kindR r = 1 ∨ kindR r = 2 ∨ kindR r = 3 ∨ kindR r = 4 ∨ kindR r = 5 := by
  unfold kindR
  repeat' split
  all_goals simp
end Go.Proofs.Ytbackpcohkblfaa
