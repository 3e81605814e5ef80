/- SecrecyLess: plain. -/
import Derived.Test.YtkjlgapkcdcmgaaLk19
set_option linter.unusedVariables false
set_option linter.unusedSimpArgs false
namespace Go.Proofs.Ytkjlgapkcdcmgaa
open Go Go.RowKit SL

def clr (b : Bf) : Bf := ⟨b.size, b.kind, false⟩
def clrN : List Bf → Nat → List Bf
  | [], _ => []
  | b :: bs, 0 => clr b :: bs
  | b :: bs, n + 1 => b :: clrN bs n
def clrUp : List Bf → Nat → List Bf
  | bs, 0 => bs
  | [], _ + 1 => []
  | b :: bs, n + 1 => clr b :: clrUp bs n
theorem clrN_len : ∀ (bs : List Bf) (n : Nat), (clrN bs n).length = bs.length
  | [], _ => rfl
  | _ :: _, 0 => rfl
  | b :: bs, n + 1 => by simp [clrN, clrN_len bs n]
theorem clrUp_len : ∀ (bs : List Bf) (n : Nat), (clrUp bs n).length = bs.length
  | bs, 0 => by unfold clrUp; rfl
  | [], _ + 1 => rfl
  | b :: bs, n + 1 => by simp [clrUp, clrUp_len bs n]
theorem clrUp_succ : ∀ (bs : List Bf) (n : Nat), clrN (clrUp bs n) n = clrUp bs (n + 1)
  | [], n => by cases n <;> rfl
  | b :: bs, 0 => by simp [clrUp, clrN]
  | b :: bs, n + 1 => by simp only [clrUp, clrN]; rw [clrUp_succ bs n]
theorem clrUp_all : ∀ bs : List Bf, clrUp bs bs.length = bs.map clr
  | [] => rfl
  | b :: bs => by simp [clrUp, clrUp_all bs]
theorem flat_clr : ∀ (bs : List Bf) (i : Nat), i < bs.length → (bs.flatMap encB).set (i * 3 + 2) (.bool false) = (clrN bs i).flatMap encB
  | [], i, h => by simp at h
  | b :: bs, 0, _ => rfl
  | b :: bs, i + 1, h => by
    rw [List.flatMap_cons]
    show _ = (b :: clrN bs i).flatMap encB
    rw [List.flatMap_cons, List.set_append_right _ _ (by rw [encB_len]; omega), encB_len, show (i + 1) * 3 + 2 - 3 = i * 3 + 2 by omega, flat_clr bs i (by simpa using h)]
theorem map_clrN : ∀ (bs : List Bf) (n : Nat), (clrN bs n).map clr = bs.map clr
  | [], _ => rfl
  | b :: bs, 0 => by simp [clrN, clr]
  | b :: bs, n + 1 => by simp [clrN, map_clrN bs n]
theorem bAt_clr (bs : List Bf) (i : Int) : bAt (bs.map clr) i = clr (bAt bs i) := by
  unfold bAt
  rw [List.getElem?_map]
  cases bs[i.toNat]? <;> rfl
theorem clrN_sec : ∀ (bs : List Bf) (n k : Nat), ((clrN bs n)[k]?.getD ⟨0, 0, false⟩).sec = true → (bs[k]?.getD ⟨0, 0, false⟩).sec = true
  | [], _, _, h => h
  | b :: bs, 0, 0, h => by simp [clrN, clr] at h
  | b :: bs, 0, k + 1, h => by simpa [clrN] using h
  | b :: bs, n + 1, 0, h => by simpa [clrN] using h
  | b :: bs, n + 1, k + 1, h => by
    simp only [clrN, List.getElem?_cons_succ] at h ⊢
    exact clrN_sec bs n k h
theorem rfields_clr (regs : Int) (bs : List Bf) (o : Lop) : rfields regs (bs.map clr) o = rfields regs bs o := by
  unfold rfields
  rw [bAt_clr, List.length_map]
  rfl
theorem rstep_clr (regs : Int) (bs : List Bf) (c : Ck) (o : Lop) : rstep regs (bs.map clr) c o = rstep regs bs c o := by
  unfold rstep; rw [rfields_clr]
theorem rrun_clr (regs : Int) (bs : List Bf) : ∀ (os : List Lop) (i : Nat) (c : Ck), rrun regs (bs.map clr) os i c = rrun regs bs os i c
  | [], _, _ => rfl
  | o :: os, i, c => by
    unfold rrun
    rw [rstep_clr]
    cases rstep regs bs c o with
    | inl e => rfl
    | inr c' => exact rrun_clr regs bs os (i + 1) c'
theorem check_clr (regs : Int) (bs : List Bf) (os : List Lop) : checkM regs (bs.map clr) os = checkM regs bs os := by
  have h : rhead regs (bs.map clr) os.length = rhead regs bs os.length := by
    unfold rhead; rw [List.length_map, List.any_map, List.any_map]; rfl
  unfold checkM
  rw [h]
  cases rhead regs bs os.length with
  | some e => rfl
  | none => exact rrun_clr regs bs os 0 _
theorem check_clrN (regs : Int) (bs : List Bf) (n : Nat) (os : List Lop) : checkM regs (clrN bs n) os = checkM regs bs os := by
  rw [← check_clr, map_clrN, check_clr]
theorem least_less {bs bs' : List Bf} {os : List Lop} {m m' : Nat} (hs : ∀ i, (bAt bs' i).sec = true → (bAt bs i).sec = true) (h : Least bs os m) (h' : Least bs' os m') : Sub m' m := by
  refine h'.2 m (fun o ho => ?_)
  have := h.1 o ho
  unfold passO at this ⊢
  split
  · rename_i ht
    have ht2 : taintM bs m o = true := by
      unfold taintM at ht ⊢
      split
      · rename_i hk; rw [if_pos hk] at ht; exact hs _ ht
      · rename_i hk; rw [if_neg hk] at ht; exact ht
    rw [if_pos ht2] at this
    exact this
  · rfl
theorem mhas_zero (r : Int) : mhas 0 r = false := by unfold mhas; simp
theorem least_none {bs : List Bf} {os : List Lop} {m : Nat} (h : Least (bs.map clr) os m) : m = 0 := by
  have h0 : Clo (bs.map clr) os 0 := fun o _ => by
    have : taintM (bs.map clr) 0 o = false := by
      unfold taintM; rw [bAt_clr]; simp only [clr, mhas_zero]; split <;> rfl
    unfold passO; rw [this]; rfl
  have := h.2 0 h0
  refine Nat.eq_of_testBit_eq fun r => ?_
  rw [Nat.zero_testBit]
  cases hb : m.testBit r with
  | false => rfl
  | true => have := this r hb; rw [Nat.zero_testBit] at this; cases this
theorem bad_zero (bs : List Bf) (o : Lop) : badM bs 0 o = false := by simp [badM, ruleM, mhas_zero]
theorem secRun_zero (bs : List Bf) : ∀ (os : List Lop) (i : Nat), secRun bs 0 os i = (((i + os.length : Nat) : Int), 0)
  | [], i => by simp [secRun]
  | o :: os, i => by
    unfold secRun
    rw [bad_zero]
    simp only [Bool.false_eq_true, if_false]
    rw [secRun_zero bs os (i + 1), List.length_cons]
    simp; omega
theorem secL_at (m : Nat) {n i : Nat} (h : i < n) : (secL m n)[i]? = some (m.testBit i) := by simp [secL, h]
/-- Pick's buffer, as far as the loop has come. -/
def qB (bs : List Bf) (j : Int) (i : Nat) : List Bf := if j < i then clrN bs j.toNat else bs
theorem qB_len (bs : List Bf) (j : Int) (i : Nat) : (qB bs j i).length = bs.length := by unfold qB; split; exact clrN_len _ _; rfl
theorem qB_check (regs : Int) (bs : List Bf) (j : Int) (i : Nat) (os : List Lop) : checkM regs (qB bs j i) os = checkM regs bs os := by unfold qB; split; exact check_clrN _ _ _ _; rfl
theorem qB_sec (bs : List Bf) (j : Int) (i : Nat) (k : Int) (h : (bAt (qB bs j i) k).sec = true) : (bAt bs k).sec = true := by
  unfold qB at h
  split at h
  · exact clrN_sec bs j.toNat k.toNat h
  · exact h
theorem qB_eq (bs : List Bf) (i : Nat) : clrN (qB bs i i) i = qB bs i (i + 1) := by
  unfold qB
  rw [if_neg (by omega), if_pos (by omega), Int.toNat_natCast]
theorem qB_ne (bs : List Bf) {j : Int} {i : Nat} (h : (i : Int) ≠ j) : qB bs j i = qB bs j (i + 1) := by
  unfold qB
  by_cases hj : j < i
  · rw [if_pos hj, if_pos (by omega)]
  · rw [if_neg hj, if_neg (by omega)]
theorem qB_zero (bs : List Bf) {j : Int} (h : 0 ≤ j) : qB bs j 0 = bs := by unfold qB; rw [if_neg (by simpa using h)]
end Go.Proofs.Ytkjlgapkcdcmgaa
