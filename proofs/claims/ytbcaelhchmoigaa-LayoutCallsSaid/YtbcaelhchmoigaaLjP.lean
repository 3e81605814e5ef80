import Derived.Test.YtbcaelhchmoigaaLiP
set_option linter.unusedVariables false
set_option linter.unusedSimpArgs false
namespace Go.Proofs.Ytbcaelhchmoigaa.Ly
open Go Go.RowKit Calm SL
def setI (x : Ins) (n : Int) : Ins := ⟨x.op, x.d, x.s, x.t, x.mb, x.mi, x.ms, x.md, n⟩
theorem jump_set {x : Ins} (h : x.jump = true) (n : Int) (hn : -2147483648 ≤ n ∧ n ≤ 2147483647) : (setI x n).jump = true ∧ (setI x n).chk = true ∧ (setI x n).out.size = x.out.size := by
  have hc := jump_chk h
  have hk : (setI x n).chk = true ∧ (setI x n).enc.length = x.enc.length := by
    obtain ⟨op, d, s, t, mb, mi, ms, md, imm⟩ := x
    unfold Ins.jump Ins.chk at h
    simp only [Bool.and_eq_true, Bool.or_eq_true, beq_iff_eq] at h
    obtain ⟨(rfl | rfl) | rfl, h⟩ := h
    · rw [chk_30] at h
      refine ⟨by show chk 30 d s t mb mi ms md n = true; rw [chk_30]; exact ⟨hn, h.2⟩, ?_⟩
      show (jumpL 233 0 n).length = (jumpL 233 0 imm).length
      unfold jumpL; split <;> simp [littleL_length]
    · rw [chk_31] at h
      refine ⟨by show chk 31 d s t mb mi ms md n = true; rw [chk_31]; exact ⟨hn, h.2⟩, ?_⟩
      show (jumpL 15 133 n).length = (jumpL 15 133 imm).length
      unfold jumpL; split <;> simp [littleL_length]
    · rw [chk_32] at h
      refine ⟨by show chk 32 d s t mb mi ms md n = true; rw [chk_32]; exact ⟨hn, h.2⟩, ?_⟩
      show (jumpL 15 130 n).length = (jumpL 15 130 imm).length
      unfold jumpL; split <;> simp [littleL_length]
  refine ⟨?_, hk.1, by rw [out_enc hk.1, out_enc hc, hk.2]⟩
  unfold Ins.jump at h ⊢
  simp only [Bool.and_eq_true] at h ⊢
  exact ⟨h.1, hk.1⟩
theorem lineE_ok {a n : Nat} {x : Ln} (h : lineE a n x = 0) : 0 ≤ x.lab ∧ (x.lab = 0 → x.ins.chk = true ∧ (x.ins.jump = true → x.ins.imm = 0 ∧ 1 ≤ x.to ∧ 0 < n)) := by
  unfold lineE at h
  by_cases h1 : x.lab < 0
  · rw [if_pos (.inl h1)] at h; cases h
  refine ⟨by omega, fun hl => ?_⟩
  rw [if_neg (by omega), if_neg (by omega), if_neg (by omega)] at h
  cases hc : x.ins.chk with
  | false => simp [hc] at h
  | true =>
  refine ⟨rfl, fun hj => ?_⟩
  by_cases hi : x.ins.imm = 0
  · simp [hc, hj, hi] at h
    exact ⟨hi, by omega, by omega⟩
  · simp [hc, hj, hi] at h
theorem firstE_each {all : List Ln} : ∀ {r pre : List Ln}, firstE all pre r = none → ∀ x ∈ r, ∃ a, lineE a (cnt all x.to) x = 0
  | [], _, _, x, hx => by cases hx
  | y :: r, pre, h, x, hx => by
    rw [firstE_step] at h
    split at h
    · rename_i he
      rcases List.mem_cons.1 hx with rfl | hx
      · exact ⟨_, he⟩
      · exact firstE_each h x hx
    · cases h
def encs (g : Int → Int) : Nat → List Ln → List Int
  | _, [] => []
  | a, x :: r => if x.lab = 0 then (fix (g x.to) a x).enc ++ encs g (a + x.size) r else encs g a r
theorem fix_ok {g : Int → Int} {a n b : Nat} {x : Ln} (h : lineE b n x = 0) (hl : x.lab = 0) (hg : 0 ≤ g x.to ∧ g x.to ≤ 100000) (ha : a ≤ 100000) :
    (fix (g x.to) a x).chk = true ∧ (fix (g x.to) a x).out.size = x.size ∧ (fix (g x.to) a x).jump = x.ins.jump ∧ (x.ins.jump = true → setI (fix (g x.to) a x) 0 = x.ins) ∧ (x.ins.jump = false → fix (g x.to) a x = x.ins) := by
  obtain ⟨hc, hj⟩ := (lineE_ok h).2 hl
  have hs : x.size = x.ins.out.size := if_pos hl
  have hsz := size_le x
  unfold fix
  cases hjj : x.ins.jump with
  | true =>
    obtain ⟨h1, _, _⟩ := hj hjj
    obtain ⟨j1, j2, j3⟩ := jump_set hjj (g x.to - a - x.size) (by omega)
    rw [if_pos rfl]
    refine ⟨j2, j3.trans hs.symm, j1, fun _ => ?_, fun h => by cases h⟩
    obtain ⟨lab, ⟨op, d, s, t, mb, mi, ms, md, imm⟩, to⟩ := x
    simp only at h1
    subst h1; rfl
  | false =>
    rw [if_neg (by simp)]
    exact ⟨hc, hs.symm, hjj, fun h => by simp [hjj] at h, fun _ => rfl⟩
end Go.Proofs.Ytbcaelhchmoigaa.Ly
