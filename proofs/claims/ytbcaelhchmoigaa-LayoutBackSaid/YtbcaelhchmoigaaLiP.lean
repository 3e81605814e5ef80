/- Plain: the lines of code, laid out, are the code; labels are numbered by their places, and each is jumped to. -/
import Derived.Test.YtbcaelhchmoigaaLiB
set_option linter.unusedVariables false
set_option linter.unusedSimpArgs false
namespace Go.Proofs.Ytbcaelhchmoigaa.Ly
open Go Go.RowKit Calm SL

theorem out_enc {x : Ins} (hc : x.chk = true) : x.out.size = x.enc.length := by rw [← bytesOf_length, Ins.out_ok hc, bytesOf_strB (Ins.enc_bytes hc).1]
theorem out_pos {x : Ins} (hc : x.chk = true) : 1 ≤ x.out.size ∧ x.out.size ≤ 11 := by rw [out_enc hc]; exact (Ins.enc_bytes hc).2
theorem jump_chk {x : Ins} (h : x.jump = true) : x.chk = true := by unfold Ins.jump at h; simp only [Bool.and_eq_true] at h; exact h.2
def nul (x : Ins) : Ins := ⟨x.op, x.d, x.s, x.t, x.mb, x.mi, x.ms, x.md, 0⟩
theorem jump_nul {x : Ins} (h : x.jump = true) : (nul x).jump = true ∧ (nul x).out.size = x.out.size := by
  have hc := jump_chk h
  have hn : (nul x).chk = true ∧ (nul x).enc.length = x.enc.length := by
    obtain ⟨op, d, s, t, mb, mi, ms, md, imm⟩ := x
    unfold Ins.jump Ins.chk at h
    simp only [Bool.and_eq_true, Bool.or_eq_true, beq_iff_eq] at h
    obtain ⟨(rfl | rfl) | rfl, h⟩ := h
    · rw [chk_30] at h
      refine ⟨by show chk 30 d s t mb mi ms md 0 = true; rw [chk_30]; exact ⟨by omega, h.2⟩, ?_⟩
      show (jumpL 233 0 0).length = (jumpL 233 0 imm).length
      unfold jumpL; split <;> simp [littleL_length]
    · rw [chk_31] at h
      refine ⟨by show chk 31 d s t mb mi ms md 0 = true; rw [chk_31]; exact ⟨by omega, h.2⟩, ?_⟩
      show (jumpL 15 133 0).length = (jumpL 15 133 imm).length
      unfold jumpL; split <;> simp [littleL_length]
    · rw [chk_32] at h
      refine ⟨by show chk 32 d s t mb mi ms md 0 = true; rw [chk_32]; exact ⟨by omega, h.2⟩, ?_⟩
      show (jumpL 15 130 0).length = (jumpL 15 130 imm).length
      unfold jumpL; split <;> simp [littleL_length]
  refine ⟨?_, by rw [out_enc hn.1, out_enc hc, hn.2]⟩
  unfold Ins.jump at h ⊢
  simp only [Bool.and_eq_true] at h ⊢
  exact ⟨h.1, hn.1⟩
theorem endAt_cons' (a k : Nat) (x : Ins) (r : List (Nat × Ins)) : endAt a ((k, x) :: r) = endAt (k + x.enc.length) r := by
  unfold endAt
  cases h : r.getLast? with
  | none =>
    have : r = [] := by simpa using h
    subst this; rfl
  | some q =>
    have : ((k, x) :: r).getLast? = some q := by rw [List.getLast?_cons, h]; rfl
    rw [this]
theorem endAt_le (S : List (Nat × Ins)) (a : Nat) (h : ∀ q ∈ S, a ≤ q.1) : a ≤ endAt a S := by
  unfold endAt
  split
  · exact Nat.le_refl _
  · rename_i k x he
    have := h (k, x) (List.mem_of_getLast? he)
    simp only at this; omega
section
variable (R : List (Nat × Ins)) (len : Nat)
/-- Rows one behind the other up to the end, no goal within one. -/
def chainG : Nat → List (Nat × Ins) → Prop
  | a, [] => a = len
  | a, r :: S => r.1 = a ∧ r.2.chk = true ∧ (∀ b : Nat, 0 < hitN R (b : Int) → b ≤ a ∨ a + r.2.out.size ≤ b) ∧ chainG (a + r.2.out.size) S
variable {R : List (Nat × Ins)} {len : Nat}
theorem chainG_le : ∀ {S : List (Nat × Ins)} {a : Nat}, chainG R len a S → a ≤ len
  | [], a, h => Nat.le_of_eq h
  | r :: S, a, h => by have := chainG_le h.2.2.2; omega
theorem numB_mono {a b : Nat} (h : a ≤ b) : numB R a ≤ numB R b := by
  induction b with
  | zero => have : a = 0 := by omega
            subst this; exact Nat.le_refl _
  | succ b ih =>
    rcases Nat.lt_or_ge a (b + 1) with h1 | h1
    · have := ih (by omega); rw [numB_succ]; omega
    · have : a = b + 1 := by omega
      subst this; exact Nat.le_refl _
theorem numB_gap {a b : Nat} (h : a ≤ b) (hno : ∀ c : Nat, a ≤ c → c < b → ¬ 0 < hitN R (c : Int)) : numB R b = numB R a := by
  induction b with
  | zero => have : a = 0 := by omega
            subst this; rfl
  | succ b ih =>
    rcases Nat.lt_or_ge a (b + 1) with h1 | h1
    · rw [numB_succ, if_neg (hno b (by omega) (by omega)), ih (by omega) (fun c h2 h3 => hno c h2 (by omega)), Nat.add_zero]
    · have : a = b + 1 := by omega
      subst this; rfl
theorem labB_nat {a : Nat} (h : 0 < hitN R (a : Int)) : labB R (a : Int) = ((numB R a + 1 : Nat) : Int) := by
  unfold labB; rw [if_pos h, Int.toNat_natCast, numB_succ, if_pos h]
theorem labB_inj {a b : Nat} (ha : 0 < hitN R (a : Int)) (hb : 0 < hitN R (b : Int)) : labB R (a : Int) = labB R (b : Int) ↔ a = b := by
  rw [labB_nat ha, labB_nat hb]
  constructor
  · intro h
    rcases Nat.lt_trichotomy a b with h1 | h1 | h1
    · have := numB_mono (R := R) (show a + 1 ≤ b by omega)
      rw [numB_succ, if_pos ha] at this; omega
    · exact h1
    · have := numB_mono (R := R) (show b + 1 ≤ a by omega)
      rw [numB_succ, if_pos hb] at this; omega
  · intro h; subst h; rfl
theorem line1_lab (r : Nat × Ins) : (line1 R r).lab = 0 := by unfold line1; split <;> rfl
theorem line1_size (r : Nat × Ins) : (line1 R r).size = r.2.out.size := by
  unfold Ln.size; rw [if_pos (line1_lab r)]
  unfold line1
  cases hj : r.2.jump with
  | true => rw [if_pos rfl]; exact (jump_nul hj).2
  | false => rw [if_neg (by simp)]
theorem lab1_yes {a : Nat} (h : 0 < hitN R (a : Int)) : lab1 R (a : Int) = [lbl ((numB R a + 1 : Nat) : Int)] := by
  unfold lab1; rw [if_pos h, labB_nat h]; rfl
theorem lab1_no {a : Nat} (h : ¬ 0 < hitN R (a : Int)) : lab1 R (a : Int) = [] := by unfold lab1; rw [if_neg h]
theorem lbl_size {n : Nat} : (lbl ((n + 1 : Nat) : Int)).size = 0 := by
  unfold Ln.size lbl; rw [if_neg (by show ((n + 1 : Nat) : Int) ≠ 0; omega)]
/-- The lines that are left. -/
def Ls (R : List (Nat × Ins)) (len : Nat) (S : List (Nat × Ins)) : List Ln := lsOf R S ++ lab1 R (len : Int)
theorem Ls_cons (r : Nat × Ins) (S : List (Nat × Ins)) : Ls R len (r :: S) = lab1 R (r.1 : Int) ++ line1 R r :: Ls R len S := by unfold Ls lsOf; simp

/-- What is found at a label. -/
theorem goal_Ls {b : Nat} (hb : 0 < hitN R (b : Int)) (hbl : b ≤ len) : ∀ {S : List (Nat × Ins)} {a : Nat} (d : Int), chainG R len a S → goalP (labB R (b : Int)) a d (Ls R len S) = if a ≤ b then (b : Int) else d
  | [], a, d, h => by
    have h : a = len := h
    subst h
    show goalP _ a d (lab1 R (a : Int)) = _
    by_cases ha : 0 < hitN R (a : Int)
    · have hm : 0 < (lbl ((numB R a + 1 : Nat) : Int)).lab := by show (0 : Int) < ((numB R a + 1 : Nat) : Int); omega
      rw [lab1_yes ha]
      by_cases e : a = b
      · subst e
        rw [if_pos (Nat.le_refl _), labB_nat ha]
        simp only [goalP]
        rw [if_pos ⟨hm, rfl⟩]
      · have hne : ¬ (0 < (lbl ((numB R a + 1 : Nat) : Int)).lab ∧ (lbl ((numB R a + 1 : Nat) : Int)).lab = labB R (b : Int)) := fun hh => by
          have h2 : ((numB R a + 1 : Nat) : Int) = labB R (b : Int) := hh.2
          rw [← labB_nat ha] at h2
          exact e ((labB_inj ha hb).1 h2)
        simp only [goalP]
        rw [if_neg hne, if_neg (by omega)]
    · rw [lab1_no ha]
      have : a ≠ b := fun e => ha (by rw [e]; exact hb)
      rw [if_neg (by omega)]; rfl
  | r :: S, a, d, ⟨h1, h2, h3, h4⟩ => by
    have hsz := out_pos h2
    have hl1 : (line1 R r).lab = 0 := line1_lab r
    have hnl : ∀ n : Int, ¬ (0 < (line1 R r).lab ∧ (line1 R r).lab = n) := fun n hh => by rw [hl1] at hh; omega
    have ih := fun d => goal_Ls hb hbl (S := S) (a := a + r.2.out.size) d h4
    have hgap := h3 b hb
    rw [Ls_cons, h1]
    by_cases ha : 0 < hitN R (a : Int)
    · have hm : 0 < (lbl ((numB R a + 1 : Nat) : Int)).lab := by show (0 : Int) < ((numB R a + 1 : Nat) : Int); omega
      rw [lab1_yes ha]
      simp only [List.cons_append, List.nil_append, goalP, lbl_size, Nat.add_zero, line1_size]
      rw [if_neg (hnl _), ih]
      by_cases e : a = b
      · subst e
        rw [if_neg (show ¬ (a + r.2.out.size ≤ a) by omega), labB_nat ha, if_pos ⟨hm, rfl⟩, if_pos (Nat.le_refl a)]
      · have hne : ¬ (0 < (lbl ((numB R a + 1 : Nat) : Int)).lab ∧ (lbl ((numB R a + 1 : Nat) : Int)).lab = labB R (b : Int)) := fun hh => by
          have h2 : ((numB R a + 1 : Nat) : Int) = labB R (b : Int) := hh.2
          rw [← labB_nat ha] at h2
          exact e ((labB_inj ha hb).1 h2)
        rw [if_neg hne]
        by_cases h5 : a ≤ b
        · rw [if_pos h5, if_pos (by omega)]
        · rw [if_neg h5, if_neg (by omega)]
    · have hne : a ≠ b := fun e => ha (by rw [e]; exact hb)
      rw [lab1_no ha]
      simp only [List.nil_append, goalP, line1_size]
      rw [if_neg (hnl _), ih]
      by_cases h5 : a ≤ b
      · rw [if_pos h5, if_pos (by omega)]
      · rw [if_neg h5, if_neg (by omega)]
/-- The code of rows. -/
def catR : List (Nat × Ins) → ByteArray
  | [] => ⟨#[]⟩
  | r :: S => r.2.out ++ catR S
theorem lgo_Ls (g : Int → Int) : ∀ {S : List (Nat × Ins)} {a : Nat} (acc : ByteArray), chainG R len a S → (∀ r ∈ S, r.2.jump = true → g (labB R (goalI r)) = goalI r) → lgo g a (Ls R len S) acc = (acc ++ catR S, 0)
  | [], a, acc, h, _ => by
    have h : a = len := h
    subst h
    show lgo g a (lab1 R (a : Int)) acc = _
    by_cases ha : 0 < hitN R (a : Int)
    · rw [lab1_yes ha, lgo_step, if_pos lbl_size]; unfold lgo catR; rw [ba_nil]
    · rw [lab1_no ha]; unfold lgo catR; rw [ba_nil]
  | r :: S, a, acc, ⟨h1, h2, h3, h4⟩, hg => by
    have hsz := out_pos h2
    have ih := fun acc => lgo_Ls g (S := S) (a := a + r.2.out.size) acc h4 (fun q hq => hg q (List.mem_cons_of_mem _ hq))
    have hfix : fix (g (line1 R r).to) a (line1 R r) = r.2 := by
      obtain ⟨k, x⟩ := r
      simp only at h1
      subst h1
      have hs : (line1 R (k, x)).size = x.out.size := line1_size (k, x)
      unfold fix
      rw [hs]
      cases hj : x.jump with
      | true =>
        have hgo : g (labB R (goalI (k, x))) = goalI (k, x) := hg (k, x) List.mem_cons_self hj
        have hl : line1 R (k, x) = ⟨0, nul x, labB R (goalI (k, x))⟩ := by unfold line1; rw [if_pos hj]; rfl
        rw [hl]
        simp only
        rw [if_pos (jump_nul hj).1, hgo]
        obtain ⟨op, d, s, t, mb, mi, ms, md, imm⟩ := x
        unfold goalI nul
        simp only [Ins.mk.injEq, true_and]
        omega
      | false =>
        have hl : line1 R (k, x) = ⟨0, x, 0⟩ := by unfold line1; rw [if_neg (by simp [hj])]
        rw [hl]
        simp only
        rw [if_neg (by simp [hj])]
    have hstep : ∀ acc, lgo g a (line1 R r :: Ls R len S) acc = (acc ++ catR (r :: S), 0) := fun acc => by
      rw [lgo_step, line1_size, if_neg (by omega), hfix, if_pos h2, ih]
      show (acc ++ r.2.out ++ catR S, (0 : Int)) = (acc ++ (r.2.out ++ catR S), 0)
      rw [ByteArray.append_assoc]
    rw [Ls_cons, h1]
    by_cases ha : 0 < hitN R (a : Int)
    · rw [lab1_yes ha]
      simp only [List.cons_append, List.nil_append]
      rw [lgo_step, if_pos lbl_size]; exact hstep acc
    · rw [lab1_no ha, List.nil_append]; exact hstep acc
theorem total_Ls : ∀ {S : List (Nat × Ins)} {a : Nat}, chainG R len a S → total (Ls R len S) = len - a
  | [], a, h => by
    have h : a = len := h
    subst h
    show total (lab1 R (a : Int)) = _
    by_cases ha : 0 < hitN R (a : Int)
    · rw [lab1_yes ha, total_cons, lbl_size]; simp [total]
    · rw [lab1_no ha]; simp [total]
  | r :: S, a, ⟨h1, h2, h3, h4⟩ => by
    have ih := total_Ls h4
    have hle := chainG_le h4
    rw [Ls_cons, h1, total_app, total_cons, line1_size, ih]
    have : total (lab1 R (a : Int)) = 0 := by
      by_cases ha : 0 < hitN R (a : Int)
      · rw [lab1_yes ha, total_cons, lbl_size]; simp [total]
      · rw [lab1_no ha]; simp [total]
    omega
/-! ### Checked -/
theorem cnt_lsOf {pre : List (Nat × Ins)} {a n : Nat} (hp : ∀ r ∈ pre, r.1 < a) (hn : numB R a < n) : cnt (lsOf R pre) (n : Int) = 0 := by
  refine cnt_zero fun y hy => ?_
  unfold lsOf at hy
  obtain ⟨r, hr, hy⟩ := List.mem_flatMap.1 hy
  rcases List.mem_append.1 hy with h | h
  · unfold lab1 at h
    split at h
    · rename_i hh
      rw [List.mem_singleton.1 h]
      show labB R (r.1 : Int) ≠ (n : Int)
      rw [labB_nat hh]
      have := numB_mono (R := R) (show r.1 + 1 ≤ a by have := hp r hr; omega)
      rw [numB_succ, if_pos hh] at this
      omega
    · cases h
  · rw [List.mem_singleton.1 h, line1_lab]; omega
theorem lineE_lbl {n k : Nat} (m : Nat) (h : n = 0) : lineE n m (lbl ((k + 1 : Nat) : Int)) = 0 := by
  subst h
  have e : (lbl ((k + 1 : Nat) : Int)).lab = ((k + 1 : Nat) : Int) := rfl
  have h0 : ¬ (((k + 1 : Nat) : Int) < 0 ∨ (0 < ((k + 1 : Nat) : Int) ∧ ((lbl ((k + 1 : Nat) : Int)).ins.isZ = false ∨ (lbl ((k + 1 : Nat) : Int)).to ≠ 0))) := by
    rintro (h | ⟨_, h | h⟩)
    · omega
    · exact absurd h (by show ¬ (true = false); decide)
    · exact h rfl
  unfold lineE
  rw [e, if_neg h0, if_neg (by omega), if_pos (by omega)]
theorem cnt_lbl {pre : List (Nat × Ins)} {a : Nat} (hp : ∀ r ∈ pre, r.1 < a) : cnt (lsOf R pre) (lbl ((numB R a + 1 : Nat) : Int)).lab = 0 := cnt_lsOf hp (Nat.lt_succ_self _)
theorem lineE_line {r : Nat × Ins} {n m : Nat} (hc : r.2.chk = true) (ht : r.2.jump = true → 1 ≤ labB R (goalI r) ∧ 0 < m) : lineE n m (line1 R r) = 0 := by
  have hl := line1_lab (R := R) r
  unfold lineE
  rw [hl, if_neg (by omega), if_neg (by omega), if_neg (by omega)]
  unfold line1
  cases hj : r.2.jump with
  | true =>
    obtain ⟨t1, t2⟩ := ht hj
    have hn := (jump_nul hj).1
    have hcn := jump_chk hn
    rw [if_pos rfl]
    have e1 : (⟨r.2.op, r.2.d, r.2.s, r.2.t, r.2.mb, r.2.mi, r.2.ms, r.2.md, 0⟩ : Ins) = nul r.2 := rfl
    rw [e1]
    simp only [hn, hcn]
    rw [if_neg (by simp [nul]), if_neg (by omega)]
  | false =>
    simp [hj, hc]
theorem firstE_Ls (all : List Ln) : ∀ {S pre : List (Nat × Ins)} {a : Nat}, chainG R len a S → (∀ r ∈ pre, r.1 < a) → (∀ r ∈ S, r.2.jump = true → 1 ≤ labB R (goalI r) ∧ 0 < cnt all (labB R (goalI r))) → firstE all (lsOf R pre) (Ls R len S) = none
  | [], pre, a, h, hp, _ => by
    have h : a = len := h
    subst h
    show firstE all _ (lab1 R (a : Int)) = _
    by_cases ha : 0 < hitN R (a : Int)
    · rw [lab1_yes ha, firstE_step, if_pos (lineE_lbl _ (cnt_lbl hp))]; rfl
    · rw [lab1_no ha]; rfl
  | r :: S, pre, a, ⟨h1, h2, h3, h4⟩, hp, hg => by
    have hsz := out_pos h2
    have ih := firstE_Ls all (S := S) (pre := pre ++ [r]) (a := a + r.2.out.size) h4 (fun q hq => by
      rcases List.mem_append.1 hq with h | h
      · have := hp q h; omega
      · rw [List.mem_singleton.1 h]; omega) (fun q hq => hg q (List.mem_cons_of_mem _ hq))
    rw [lsOf_snoc, h1] at ih
    have hto : r.2.jump = true → (line1 R r).to = labB R (goalI r) := fun hj => by unfold line1; rw [if_pos hj]
    have hle : ∀ n, lineE n (cnt all (line1 R r).to) (line1 R r) = 0 := fun n => lineE_line h2 (fun hj => by rw [hto hj]; exact hg r List.mem_cons_self hj)
    rw [Ls_cons, h1]
    by_cases ha : 0 < hitN R (a : Int)
    · rw [lab1_yes ha] at ih ⊢
      simp only [List.cons_append, List.nil_append]
      rw [firstE_step, if_pos (lineE_lbl _ (cnt_lbl hp)), firstE_step, if_pos (hle _)]
      exact ih
    · rw [lab1_no ha] at ih ⊢
      rw [List.append_nil] at ih
      rw [List.nil_append, firstE_step, if_pos (hle _)]
      exact ih
/-! ### Labels by their places -/
def labsOK (all : List Ln) : Nat → List Ln → Prop
  | _, [] => True
  | n, x :: r => if x.lab = 0 then labsOK all n r else x.lab = ((n + 1 : Nat) : Int) ∧ (∃ y ∈ all, y.to = x.lab) ∧ labsOK all (n + 1) r
theorem labs_Ls (all : List Ln) (hit : ∀ b : Nat, 0 < hitN R (b : Int) → ∃ y ∈ all, y.to = labB R (b : Int)) : ∀ {S : List (Nat × Ins)} {a : Nat}, chainG R len a S → labsOK all (numB R a) (Ls R len S)
  | [], a, h => by
    have h : a = len := h
    subst h
    show labsOK all _ (lab1 R (a : Int))
    by_cases ha : 0 < hitN R (a : Int)
    · rw [lab1_yes ha]
      unfold labsOK
      rw [if_neg (by show ((numB R a + 1 : Nat) : Int) ≠ 0; omega)]
      refine ⟨rfl, ?_, trivial⟩
      obtain ⟨y, hy, e⟩ := hit a ha
      exact ⟨y, hy, by rw [e, labB_nat ha]; rfl⟩
    · rw [lab1_no ha]; trivial
  | r :: S, a, ⟨h1, h2, h3, h4⟩ => by
    have hsz := out_pos h2
    have ih := labs_Ls all hit h4
    have e1 : numB R (a + r.2.out.size) = numB R (a + 1) := numB_gap (by omega) (fun c hc1 hc2 hh => by have := h3 c hh; omega)
    rw [e1, numB_succ] at ih
    rw [Ls_cons, h1]
    by_cases ha : 0 < hitN R (a : Int)
    · rw [if_pos ha] at ih
      rw [lab1_yes ha]
      simp only [List.cons_append, List.nil_append]
      unfold labsOK
      rw [if_neg (by show ((numB R a + 1 : Nat) : Int) ≠ 0; omega)]
      obtain ⟨y, hy, e⟩ := hit a ha
      refine ⟨rfl, ⟨y, hy, by rw [e, labB_nat ha]; rfl⟩, ?_⟩
      unfold labsOK
      rw [if_pos (line1_lab r)]; exact ih
    · rw [if_neg ha] at ih
      rw [lab1_no ha, List.nil_append]
      unfold labsOK
      rw [if_pos (line1_lab r)]; exact ih
/-! ### Rows that were read -/
theorem mem_Ls {r : Nat × Ins} {S : List (Nat × Ins)} (h : r ∈ S) : line1 R r ∈ Ls R len S ∧ ∀ y ∈ lab1 R (r.1 : Int), y ∈ Ls R len S := by
  unfold Ls lsOf
  refine ⟨List.mem_append_left _ (List.mem_flatMap.2 ⟨r, h, by simp⟩), fun y hy => List.mem_append_left _ (List.mem_flatMap.2 ⟨r, h, by simp [hy]⟩)⟩
theorem hit_row {b : Int} (h : 0 < hitN R b) : ∃ r ∈ R, r.2.jump = true ∧ goalI r = b := by
  unfold hitN at h
  obtain ⟨r, hr, hh⟩ := List.countP_pos_iff.1 h
  simp only [Bool.and_eq_true, beq_iff_eq] at hh
  exact ⟨r, hr, hh.1, hh.2⟩
theorem row_hit {r : Nat × Ins} (hr : r ∈ R) (hj : r.2.jump = true) : 0 < hitN R (goalI r) := by
  unfold hitN
  exact List.countP_pos_iff.2 ⟨r, hr, by simp [hj]⟩
/-- The law of code and lines. -/
theorem lines_back (hch : chainG R len 0 R) (hlen : len ≤ 1000000) (hall : ∀ r ∈ R, r.2.jump = true → atB R len (goalI r) = true) (hlt : ∀ r ∈ R, r.1 < len) :
    lbytes (Ls R len R) = (catR R, 0) ∧ labsOK (Ls R len R) 0 (Ls R len R) := by
  have hgo : ∀ r ∈ R, r.2.jump = true → ∃ b : Nat, goalI r = (b : Int) ∧ b ≤ len ∧ 0 < hitN R (b : Int) ∧ lbl (labB R (b : Int)) ∈ Ls R len R := by
    intro r hr hj
    have h1 := hall r hr hj
    have h2 := atB_range hlt h1
    obtain ⟨b, hb⟩ : ∃ b : Nat, goalI r = (b : Int) := ⟨(goalI r).toNat, by omega⟩
    have h3 := row_hit hr hj
    rw [hb] at h1 h2 h3
    refine ⟨b, hb, by omega, h3, ?_⟩
    have hl : lbl (labB R (b : Int)) ∈ lab1 R (b : Int) := by unfold lab1; rw [if_pos h3]; exact List.mem_singleton.2 rfl
    unfold atB at h1
    simp only [Bool.or_eq_true, beq_iff_eq, List.any_eq_true] at h1
    rcases h1 with h1 | ⟨q, hq, h1⟩
    · unfold Ls; rw [← h1]; exact List.mem_append_right _ hl
    · exact (mem_Ls hq).2 _ (by rw [h1]; exact hl)
  have hjl : ∀ r ∈ R, r.2.jump = true → 1 ≤ labB R (goalI r) ∧ 0 < cnt (Ls R len R) (labB R (goalI r)) := by
    intro r hr hj
    obtain ⟨b, hb, hbl, hh, hm⟩ := hgo r hr hj
    rw [hb]
    refine ⟨by rw [labB_nat hh]; omega, ?_⟩
    unfold cnt
    exact List.countP_pos_iff.2 ⟨_, hm, by simp [lbl]⟩
  have hg : ∀ r ∈ R, r.2.jump = true → (fun n => goalP n 0 0 (Ls R len R)) (labB R (goalI r)) = goalI r := by
    intro r hr hj
    obtain ⟨b, hb, hbl, hh, hm⟩ := hgo r hr hj
    rw [hb]
    simp only
    rw [goal_Ls hh hbl 0 hch, if_pos (Nat.zero_le _)]
  have hF : firstE (Ls R len R) [] (Ls R len R) = none := firstE_Ls (Ls R len R) (S := R) (pre := []) (a := 0) hch (fun r h => by cases h) hjl
  have hT : total (Ls R len R) = len := by rw [total_Ls hch]; omega
  constructor
  · unfold lbytes
    rw [if_pos ((lcheck_ok (by rw [hT]; omega)).2 hF), lgo_Ls _ ⟨#[]⟩ hch hg, nil_ba]
  · have := labs_Ls (Ls R len R) (fun b hh => by
      obtain ⟨r, hr, hj, e⟩ := hit_row hh
      exact ⟨line1 R r, (mem_Ls hr).1, by unfold line1; rw [if_pos hj, ← e]⟩) hch
    exact this
/-- Rows that were read are a chain. -/
theorem chain_of {S : List (Nat × Ins)} : ∀ {l : List Int} {a : Nat}, (∀ b ∈ l, Byte b) → rows l a = S → endAt a S = len → (∀ b : Nat, 0 < hitN R (b : Int) → b ≤ a ∨ (b = len ∨ ∃ r ∈ S, r.1 = b)) → chainG R len a S := by
  induction S with
  | nil => intro l a _ _ he _; exact he
  | cons r S ih =>
    intro l a hb hr he hh
    obtain ⟨k, x⟩ := r
    obtain ⟨_, h2, h3, h4, h5, h6, h7⟩ := rows_at [] l a k x S hb hr
    have hk : k = a := by rw [h7]; rfl
    subst hk
    rw [Nat.sub_self, Nat.zero_add] at h6
    have hx := out_enc h5
    have he2 : endAt (k + x.enc.length) S = len := by rw [← endAt_cons']; exact he
    have hpos : ∀ q ∈ S, k + x.enc.length ≤ q.1 := by
      intro q hq
      obtain ⟨p1, p2, e⟩ := List.append_of_mem hq
      have := rows_at p1 (l.drop x.enc.length) (k + x.enc.length) q.1 q.2 p2 (fun b hb' => hb b (List.mem_of_mem_drop hb')) (by rw [← h6]; exact e)
      exact this.1
    have hlen : k + x.enc.length ≤ len := by
      rw [← he2]
      exact endAt_le S _ hpos
    refine ⟨rfl, h5, fun b hb' => ?_, ?_⟩
    · show b ≤ k ∨ k + x.out.size ≤ b
      rw [hx]
      rcases hh b hb' with h | h | ⟨q, hq, e⟩
      · exact .inl h
      · exact .inr (by omega)
      · rcases List.mem_cons.1 hq with rfl | hq
        · exact .inl (Nat.le_of_eq e.symm)
        · exact .inr (by have := hpos q hq; omega)
    · show chainG R len (k + x.out.size) S
      rw [hx]
      refine ih (l := l.drop x.enc.length) (fun b hb' => hb b (List.mem_of_mem_drop hb')) h6.symm he2 (fun b hb' => ?_)
      rcases hh b hb' with h | h | ⟨q, hq, e⟩
      · exact .inl (by omega)
      · exact .inr (.inl h)
      · rcases List.mem_cons.1 hq with rfl | hq
        · exact .inl (by show b ≤ _; have : k = b := e; omega)
        · exact .inr (.inr ⟨q, hq, e⟩)
theorem cat_enc : ∀ {S : List (Nat × Ins)}, (∀ r ∈ S, r.2.chk = true) → bytesOf (catR S) = S.flatMap (·.2.enc)
  | [], _ => rfl
  | r :: S, h => by
    have hc := h r List.mem_cons_self
    have e1 : bytesOf (r.2.out ++ catR S) = bytesOf r.2.out ++ bytesOf (catR S) := by unfold bytesOf; simp
    show bytesOf (r.2.out ++ catR S) = _
    rw [e1, cat_enc (fun q hq => h q (List.mem_cons_of_mem _ hq)), Ins.out_ok hc, bytesOf_strB (Ins.enc_bytes hc).1, List.flatMap_cons]
theorem linesM_ok {e : Int} {X : List Ln} (h : linesM R len e = (X, 0)) : e = 0 ∧ X = Ls R len R ∧ ∀ r ∈ R, r.2.jump = true → atB R len (goalI r) = true := by
  unfold linesM at h
  split at h
  · rename_i he
    simp only [Prod.mk.injEq] at h
    exact absurd h.2 he
  · rename_i he
    split at h
    · rename_i hall
      simp only [Prod.mk.injEq] at h
      refine ⟨by omega, h.1.symm, fun r hr hj => ?_⟩
      have := List.all_eq_true.1 hall r hr
      simpa [hj] using this
    · simp only [Prod.mk.injEq] at h
      exact absurd h.2 (by decide)
theorem linesM_bad {e f : Int} {X : List Ln} (h : linesM R len e = (X, f)) (hf : f ≠ 0) : X = [] := by
  unfold linesM at h
  split at h
  · simp only [Prod.mk.injEq] at h; exact h.1.symm
  · split at h
    · simp only [Prod.mk.injEq] at h; exact absurd h.2.symm hf
    · simp only [Prod.mk.injEq] at h; exact h.1.symm
theorem Ls_ok (hR : ∀ r ∈ R, r.2.ok) (hlen : len ≤ 1000000) (hlt : ∀ r ∈ R, r.1 < len) (hall : ∀ r ∈ R, r.2.jump = true → atB R len (goalI r) = true) : ∀ x ∈ Ls R len R, x.ok := by
  have hb : ∀ a : Int, 0 ≤ a → a ≤ len → 0 ≤ labB R a ∧ labB R a ≤ 2000000 := by
    intro a h0 h1
    unfold labB
    have := numB_le R (a.toNat + 1)
    split <;> omega
  have hz : (⟨0, 0, 0, 0, 0, 0, 0, 0, 0⟩ : Ins).ok := by unfold Ins.ok; decide
  have hl : ∀ a : Int, 0 ≤ a → a ≤ len → ∀ x ∈ lab1 R a, x.ok := by
    intro a h0 h1 x hx
    unfold lab1 at hx
    split at hx
    · rw [List.mem_singleton.1 hx]
      have := hb a h0 h1
      exact ⟨by show _ ≤ labB R a ∧ labB R a ≤ _; omega, hz, by show _ ≤ (0 : Int) ∧ (0 : Int) ≤ _; omega⟩
    · cases hx
  intro x hx
  unfold Ls lsOf at hx
  rcases List.mem_append.1 hx with h | h
  · obtain ⟨r, hr, h⟩ := List.mem_flatMap.1 h
    have hrl := hlt r hr
    rcases List.mem_append.1 h with h | h
    · exact hl _ (by omega) (by omega) x h
    · rw [List.mem_singleton.1 h]
      have ho := hR r hr
      unfold line1
      cases hj : r.2.jump with
      | true =>
        rw [if_pos rfl]
        have hg := atB_range hlt (hall r hr hj)
        have := hb (goalI r) hg.1 (by omega)
        exact ⟨by show _ ≤ (0 : Int) ∧ (0 : Int) ≤ _; omega, ⟨ho.1, by show _ ≤ (0 : Int) ∧ (0 : Int) ≤ _; omega⟩, by show _ ≤ labB R (goalI r) ∧ labB R (goalI r) ≤ _; omega⟩
      | false =>
        rw [if_neg (by simp)]
        exact ⟨by show _ ≤ (0 : Int) ∧ (0 : Int) ≤ _; omega, ho, by show _ ≤ (0 : Int) ∧ (0 : Int) ≤ _; omega⟩
  · exact hl _ (by omega) (by omega) x h
end
end Go.Proofs.Ytbcaelhchmoigaa.Ly
