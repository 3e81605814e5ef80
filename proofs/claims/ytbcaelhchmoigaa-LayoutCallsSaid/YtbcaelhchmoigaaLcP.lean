import Derived.Test.YtbcaelhchmoigaaLjP
set_option linter.unusedVariables false
set_option linter.unusedSimpArgs false
namespace Go.Proofs.Ytbcaelhchmoigaa.Ly
open Go Go.RowKit Calm SL
theorem cnt_pos {l : List Ln} {n : Int} : 0 < cnt l n ↔ ∃ y ∈ l, y.lab = n := by
  unfold cnt
  rw [List.countP_pos_iff]
  simp
theorem lineE_lab {a n : Nat} {x : Ln} (h : lineE a n x = 0) (hp : 0 < x.lab) : a = 0 := by
  unfold lineE at h
  by_cases h1 : x.lab < 0 ∨ (0 < x.lab ∧ (x.ins.isZ = false ∨ x.to ≠ 0))
  · rw [if_pos h1] at h; cases h
  · rw [if_neg h1] at h
    by_cases h2 : 0 < x.lab ∧ 0 < a
    · rw [if_pos h2] at h; cases h
    · omega
theorem firstE_uniq {all : List Ln} : ∀ {r pre : List Ln}, firstE all pre r = none → ∀ (j : Nat) (y : Ln), r[j]? = some y → 0 < y.lab → cnt (pre ++ r.take j) y.lab = 0
  | [], _, _, j, y, hy, _ => by simp at hy
  | x :: r, pre, h, j, y, hy, hp => by
    rw [firstE_step] at h
    split at h
    · rename_i he
      rcases j with _ | j
      · simp only [List.getElem?_cons_zero, Option.some.injEq] at hy
        subst hy
        simpa using lineE_lab he hp
      · have := firstE_uniq h j y (by simpa using hy) hp
        simpa using this
    · cases h
theorem goal_uniq {l : List Ln} (h : firstE l [] l = none) {k : Nat} {x : Ln} (hk : l[k]? = some x) (hp : 0 < x.lab) : goalP x.lab 0 0 l = ((total (l.take k) : Nat) : Int) := by
  have hs : l = l.take k ++ x :: l.drop (k + 1) := by rw [← drop_eq hk, List.take_append_drop]
  have hg : goalP x.lab 0 0 l = goalP x.lab 0 0 (l.take k ++ x :: l.drop (k + 1)) := by rw [← hs]
  rw [hg, goalP_app, goalP, if_pos ⟨hp, rfl⟩, Nat.zero_add]
  refine goalP_skip _ _ _ _ (fun y hy hh => ?_)
  obtain ⟨j, hj⟩ := List.mem_iff_getElem?.1 hy
  rw [List.getElem?_drop] at hj
  have hu := firstE_uniq h (k + 1 + j) y hj hh.1
  rw [List.nil_append] at hu
  have : 0 < cnt (l.take (k + 1 + j)) y.lab := cnt_pos.2 ⟨x, List.mem_of_getElem? (i := k) (by rw [List.getElem?_take, if_pos (by omega)]; exact hk), hh.2.symm⟩
  omega
def pl (R : List (Nat × Ins)) (k : Nat) : Nat := endAt 0 (R.take k)
def Row (R : List (Nat × Ins)) : Prop := ∀ i r, R[i]? = some r → r.1 = pl R i ∧ r.2.chk = true ∧ r.2.ok
section
variable {R : List (Nat × Ins)}
theorem pl_succ (h : Row R) {i : Nat} {r : Nat × Ins} (hi : R[i]? = some r) : pl R (i + 1) = pl R i + r.2.out.size := by
  obtain ⟨h1, h2, _⟩ := h i r hi
  have e : R.take (i + 1) = R.take i ++ [r] := by
    obtain ⟨hl, rfl⟩ := List.getElem?_eq_some_iff.1 hi
    rw [List.take_add_one, List.getElem?_eq_getElem hl]; rfl
  unfold pl at h1 ⊢
  rw [e]
  have := endOf_snoc (R.take i) r
  unfold endOf at this
  rw [this, h1, out_enc h2]
theorem pl_all {k : Nat} (h : R.length ≤ k) : pl R k = endOf R := by unfold pl; rw [List.take_of_length_le h]
theorem pl_lt (h : Row R) {i : Nat} (hi : i < R.length) : pl R i < pl R (i + 1) := by
  have e := List.getElem?_eq_getElem hi
  have := out_pos (h i _ e).2.1
  rw [pl_succ h e]; omega
theorem pl_mono (h : Row R) {i : Nat} : ∀ {j : Nat}, i < j → j ≤ R.length → pl R i < pl R j
  | j + 1, h1, h2 => by
    have := pl_lt h (i := j) (by omega)
    rcases Nat.lt_or_ge i j with h3 | h3
    · have := pl_mono h h3 (by omega); omega
    · have : i = j := by omega
      subst this; assumption
theorem pl_le (h : Row R) {j : Nat} (hj : j ≤ R.length) : pl R j ≤ j * 11 := by
  induction j with
  | zero => exact Nat.le_refl _
  | succ j ih =>
    have e := List.getElem?_eq_getElem (l := R) (i := j) (by omega)
    have := out_pos (h j _ e).2.1
    have := ih (by omega)
    rw [pl_succ h e]; omega
theorem atB_pl (h : Row R) {len : Nat} (hl : len = pl R R.length) (g : Int) : atB R len g = true ↔ ∃ k, k ≤ R.length ∧ (pl R k : Int) = g := by
  unfold atB
  rw [Bool.or_eq_true, beq_iff_eq, List.any_eq_true]
  constructor
  · rintro (h1 | ⟨r, hr, h1⟩)
    · exact ⟨R.length, Nat.le_refl _, by rw [h1, hl]⟩
    · obtain ⟨i, hi⟩ := List.mem_iff_getElem?.1 hr
      obtain ⟨hl, _⟩ := List.getElem?_eq_some_iff.1 hi
      refine ⟨i, by omega, ?_⟩
      rw [← (h i r hi).1]; simpa using h1
  · rintro ⟨k, hk, h1⟩
    rcases Nat.lt_or_ge k R.length with h2 | h2
    · have e := List.getElem?_eq_getElem h2
      exact .inr ⟨R[k], List.getElem_mem h2, by rw [(h k _ e).1, h1]; simp⟩
    · have : k = R.length := by omega
      subst this
      exact .inl (by rw [hl, h1])
def found (R : List (Nat × Ins)) : Prop := ∀ r ∈ R, r.2.jump = true → ∃ k, k ≤ R.length ∧ (pl R k : Int) = goalI r
theorem numB_pl (h : Row R) (hf : found R) {k : Nat} (hk : k < R.length) : numB R (pl R (k + 1)) = numB R (pl R k) + if 0 < hitN R (pl R k : Int) then 1 else 0 := by
  rw [← numB_succ]
  have hlt := pl_lt h hk
  refine numB_gap (by omega) (fun c h1 h2 h3 => ?_)
  obtain ⟨r, hr, hj, hg⟩ := hit_row h3
  obtain ⟨j, hj1, hj2⟩ := hf r hr hj
  have e : pl R j = c := by omega
  rcases Nat.lt_trichotomy j k with h4 | h4 | h4
  · have := pl_mono h h4 (by omega); omega
  · subst h4; omega
  · have : pl R (k + 1) ≤ pl R j := by
      rcases Nat.lt_or_ge (k + 1) j with h5 | h5
      · have := pl_mono h h5 hj1; omega
      · have : j = k + 1 := by omega
        subst this; omega
    omega
theorem labB_pl {a : Nat} : labB R (a : Int) = ((if 0 < hitN R (a : Int) then numB R a + 1 else 0 : Nat) : Int) := by
  by_cases h : 0 < hitN R (a : Int)
  · rw [labB_nat h, if_pos h]
  · rw [if_neg h]; unfold labB; rw [if_neg h]; rfl
theorem linesM_found (h : Row R) (hf : found R) {len : Nat} (hl : len = pl R R.length) : linesM R len 0 = (lsOf R R ++ lab1 R (len : Int), 0) := by
  unfold linesM
  rw [if_neg (by simp), if_pos]
  · rfl
  · rw [List.all_eq_true]
    intro r hr
    cases hj : r.2.jump with
    | false => rfl
    | true => simpa using (atB_pl h hl _).2 (hf r hr hj)
theorem linesM_lost (h : Row R) {len : Nat} (hl : len = pl R R.length) {r : Nat × Ins} (hr : r ∈ R) (hj : r.2.jump = true) (hn : ∀ k, k ≤ R.length → (pl R k : Int) ≠ goalI r) : linesM R len 0 = ([], 4) := by
  unfold linesM
  rw [if_neg (by simp), if_neg]
  rw [List.all_eq_true]
  intro hall
  have h1 := hall r hr
  rw [hj] at h1
  obtain ⟨k, k1, k2⟩ := (atB_pl h hl _).1 (by simpa using h1)
  exact hn k k1 k2
theorem hitN_take {i : Nat} {r : Nat × Ins} (hi : R[i]? = some r) (n : Int) : hitN (R.take (i + 1)) n = hitN (R.take i) n + if r.2.jump = true ∧ goalI r = n then 1 else 0 := by
  have e : R.take (i + 1) = R.take i ++ [r] := by
    obtain ⟨hl, rfl⟩ := List.getElem?_eq_some_iff.1 hi
    rw [List.take_add_one, List.getElem?_eq_getElem hl]; rfl
  rw [e, hitN_snoc]
theorem row_rows {l : List Int} (hb : ∀ b ∈ l, Byte b) (hR : rows l 0 = R) : Row R := by
  intro i r hi
  have hs : R = R.take i ++ r :: R.drop (i + 1) := by
    obtain ⟨hl, rfl⟩ := List.getElem?_eq_some_iff.1 hi
    rw [← List.drop_eq_getElem_cons hl, List.take_append_drop]
  obtain ⟨_, _, _, h4, h5, _, h7⟩ := rows_at (R.take i) l 0 r.1 r.2 (R.drop (i + 1)) hb (by rw [hR]; exact hs)
  exact ⟨h7, h5, h4⟩
end
end Go.Proofs.Ytbcaelhchmoigaa.Ly
