/- layout, as plain functions of lines: what layout.Check, layout.Places and layout.Bytes answer. No program in sight. -/
import Derived.Test.YtbcaelhchmoigaaME
namespace Go.Proofs.Ytbcaelhchmoigaa.Ly
open Go.RowKit Calm

structure Ln where
  lab : Int
  ins : Ins
  to : Int
def Ln.vs (x : Ln) : List Value := [.int .i64 x.lab, .int .i64 x.ins.op, .int .i64 x.ins.d, .int .i64 x.ins.s, .int .i64 x.ins.t, .int .i64 x.ins.mb, .int .i64 x.ins.mi, .int .i64 x.ins.ms, .int .i64 x.ins.md, .int .i64 x.ins.imm, .int .i64 x.to]
def Ln.V (x : Ln) : Value := .agg #[.int .i64 x.lab, .int .i64 x.ins.op, .int .i64 x.ins.d, .int .i64 x.ins.s, .int .i64 x.ins.t, .int .i64 x.ins.mb, .int .i64 x.ins.mi, .int .i64 x.ins.ms, .int .i64 x.ins.md, .int .i64 x.ins.imm, .int .i64 x.to]
def Ln.ok (x : Ln) : Prop := (-9223372036854775808 ≤ x.lab ∧ x.lab ≤ 9223372036854775807) ∧ x.ins.ok ∧ (-9223372036854775808 ≤ x.to ∧ x.to ≤ 9223372036854775807)
def _root_.Go.Proofs.Ytbcaelhchmoigaa.Ins.isZ (x : Ins) : Bool := (x.op == 0) && ((x.d == 0) && ((x.s == 0) && ((x.t == 0) && ((x.mb == 0) && ((x.mi == 0) && ((x.ms == 0) && ((x.md == 0) && ((x.imm == 0) && true))))))))
def _root_.Go.Proofs.Ytbcaelhchmoigaa.Ins.jump (x : Ins) : Bool := (x.op == 30 || x.op == 31 || x.op == 32) && x.chk
def Ln.size (x : Ln) : Nat := if x.lab = 0 then x.ins.out.size else 0
/-- How many lines have a label. -/
def cnt (l : List Ln) (n : Int) : Nat := l.countP (fun x => x.lab == n)
/-- A line's error; a: so many lines ahead have its label; n: so many lines have the label that it goes to. -/
def lineE (a n : Nat) (x : Ln) : Int :=
  if x.lab < 0 ∨ (0 < x.lab ∧ (x.ins.isZ = false ∨ x.to ≠ 0)) then 2
  else if 0 < x.lab ∧ 0 < a then 6
  else if 0 < x.lab then 0
  else if x.ins.chk = false ∨ (x.ins.jump = true ∧ x.ins.imm ≠ 0) ∨ (x.ins.jump = false ∧ x.to ≠ 0) then 2
  else if x.ins.jump = true ∧ (x.to < 1 ∨ n = 0) then 5 else 0
/-- The first line that may not be. -/
def firstE (all : List Ln) : List Ln → List Ln → Option (Nat × Int)
  | _, [] => none
  | pre, x :: r => if lineE (cnt pre x.lab) (cnt all x.to) x = 0 then firstE all (pre ++ [x]) r else some (pre.length, lineE (cnt pre x.lab) (cnt all x.to) x)
def total (l : List Ln) : Nat := (l.map Ln.size).sum
def lcheck (l : List Ln) : Nat × Int := match firstE l [] l with
  | some p => p
  | none => (l.length, if 1048576 < total l then 10 else 0)
def places : Nat → List Ln → List Nat
  | _, [] => []
  | a, x :: r => a :: places (a + x.size) r
/-- Where a label stands. -/
def goalP (n : Int) : Nat → Int → List Ln → Int
  | _, d, [] => d
  | a, d, x :: r => goalP n (a + x.size) (if 0 < x.lab ∧ x.lab = n then (a : Int) else d) r
def fix (g : Int) (a : Nat) (x : Ln) : Ins := if x.ins.jump = true then { x.ins with imm := g - a - x.size } else x.ins
def lgo (g : Int → Int) : Nat → List Ln → ByteArray → ByteArray × Int
  | _, [], acc => (acc, 0)
  | a, x :: r, acc => if x.size = 0 then lgo g a r acc else
      if (fix (g x.to) a x).chk = true then lgo g (a + x.size) r (acc ++ (fix (g x.to) a x).out) else (⟨#[]⟩, 2)
def lbytes (l : List Ln) : ByteArray × Int := if (lcheck l).2 = 0 then lgo (fun n => goalP n 0 0 l) 0 l ⟨#[]⟩ else (⟨#[]⟩, (lcheck l).2)

/-! ### What labels are called does not matter -/
def sh (b : Int) (n : Int) : Int := if 0 < n then n + b else n
def Ln.sh (b : Int) (x : Ln) : Ln := ⟨Ly.sh b x.lab, x.ins, Ly.sh b x.to⟩
theorem sh_inj {b : Int} (hb : 0 ≤ b) {n m : Int} : sh b n = sh b m ↔ n = m := by
  unfold sh
  constructor
  · intro h; split at h <;> split at h <;> omega
  · intro h; rw [h]
theorem sh_pos {b : Int} (hb : 0 ≤ b) {n : Int} : 0 < sh b n ↔ 0 < n := by unfold sh; split <;> omega
theorem sh_neg {b : Int} (hb : 0 ≤ b) {n : Int} : sh b n < 0 ↔ n < 0 := by unfold sh; split <;> omega
theorem sh_zero {b : Int} (hb : 0 ≤ b) {n : Int} : sh b n = 0 ↔ n = 0 := by unfold sh; split <;> omega
theorem sh_one {b : Int} (hb : 0 ≤ b) {n : Int} : sh b n < 1 ↔ n < 1 := by unfold sh; split <;> omega
theorem cnt_sh {b : Int} (hb : 0 ≤ b) (l : List Ln) (n : Int) : cnt (l.map (Ln.sh b)) (sh b n) = cnt l n := by
  unfold cnt
  rw [List.countP_map]
  congr 1
  funext x
  show (Ly.sh b x.lab == sh b n) = (x.lab == n)
  rw [Bool.eq_iff_iff]; simp [sh_inj hb]
theorem size_sh {b : Int} (hb : 0 ≤ b) (x : Ln) : (x.sh b).size = x.size := by
  unfold Ln.size; simp only [Ln.sh, sh_zero hb]
theorem lineE_sh {b : Int} (hb : 0 ≤ b) (a n : Nat) (x : Ln) : lineE a n (x.sh b) = lineE a n x := by
  unfold lineE; simp only [Ln.sh, sh_neg hb, sh_pos hb, sh_one hb, ne_eq, sh_zero hb]
theorem firstE_sh {b : Int} (hb : 0 ≤ b) (all : List Ln) : ∀ (r pre : List Ln), firstE (all.map (Ln.sh b)) (pre.map (Ln.sh b)) (r.map (Ln.sh b)) = firstE all pre r
  | [], pre => rfl
  | x :: r, pre => by
    have ih := firstE_sh hb all r (pre ++ [x])
    rw [List.map_append] at ih
    simp only [List.map_cons, List.map_nil] at ih
    have e1 : cnt (pre.map (Ln.sh b)) (x.sh b).lab = cnt pre x.lab := cnt_sh hb pre x.lab
    have e2 : cnt (all.map (Ln.sh b)) (x.sh b).to = cnt all x.to := cnt_sh hb all x.to
    simp only [List.map_cons, firstE, e1, e2, lineE_sh hb, List.length_map, ih]
theorem total_sh {b : Int} (hb : 0 ≤ b) (l : List Ln) : total (l.map (Ln.sh b)) = total l := by
  unfold total; rw [List.map_map]; congr 2; funext x; exact size_sh hb x
theorem lcheck_sh {b : Int} (hb : 0 ≤ b) (l : List Ln) : lcheck (l.map (Ln.sh b)) = lcheck l := by
  have := firstE_sh hb l l []
  simp only [List.map_nil] at this
  unfold lcheck; rw [this, total_sh hb, List.length_map]
theorem goalP_sh {b : Int} (hb : 0 ≤ b) (n : Int) : ∀ (l : List Ln) (a : Nat) (d : Int), goalP (sh b n) a d (l.map (Ln.sh b)) = goalP n a d l
  | [], a, d => rfl
  | x :: r, a, d => by
    simp only [List.map_cons, goalP, size_sh hb]
    rw [goalP_sh hb n r]
    congr 1
    have e : (0 < (x.sh b).lab ∧ (x.sh b).lab = sh b n) ↔ (0 < x.lab ∧ x.lab = n) := by
      show (0 < sh b x.lab ∧ sh b x.lab = sh b n) ↔ _
      rw [sh_pos hb, sh_inj hb]
    simp only [e]
theorem fix_sh {b : Int} (hb : 0 ≤ b) (g : Int) (a : Nat) (x : Ln) : fix g a (x.sh b) = fix g a x := by
  unfold fix; rw [size_sh hb]; rfl
theorem lgo_sh {b : Int} (hb : 0 ≤ b) (g h : Int → Int) (hg : ∀ n, h (sh b n) = g n) : ∀ (r : List Ln) (a : Nat) (acc : ByteArray), lgo h a (r.map (Ln.sh b)) acc = lgo g a r acc
  | [], a, acc => rfl
  | x :: r, a, acc => by
    have e : h (x.sh b).to = g x.to := hg x.to
    simp only [List.map_cons, lgo, size_sh hb, e, fix_sh hb, lgo_sh hb g h hg r]
theorem lbytes_sh {b : Int} (hb : 0 ≤ b) (l : List Ln) : lbytes (l.map (Ln.sh b)) = lbytes l := by
  unfold lbytes
  rw [lcheck_sh hb, lgo_sh hb (fun n => goalP n 0 0 l) _ (fun n => goalP_sh hb n l 0 0)]

/-! ### Two parts, none jumping into the other -/
theorem cnt_app (l m : List Ln) (n : Int) : cnt (l ++ m) n = cnt l n + cnt m n := by unfold cnt; rw [List.countP_append]
theorem cnt_zero {l : List Ln} {n : Int} (h : ∀ x ∈ l, x.lab ≠ n) : cnt l n = 0 := by
  unfold cnt; rw [List.countP_eq_zero]; intro x hx; simpa using h x hx
theorem lineE_congr {a n a' n' : Nat} {x : Ln} (ha : 0 < x.lab → a = a') (hn : 1 ≤ x.to → n = n') : lineE a n x = lineE a' n' x := by
  unfold lineE
  by_cases h1 : 0 < x.lab
  · rw [ha h1]; simp only [h1, true_and, if_true]
  · by_cases h2 : 1 ≤ x.to
    · rw [hn h2]; simp only [h1, false_and]
    · have : x.to < 1 := by omega
      simp only [h1, false_and, this, true_or]
theorem firstE_congr (all all' : List Ln) (k : Nat) : ∀ (r pre pre' : List Ln), pre'.length = pre.length + k → (∀ x ∈ r, 0 < x.lab → ∀ q, cnt (pre ++ q) x.lab = cnt (pre' ++ q) x.lab) → (∀ x ∈ r, 1 ≤ x.to → cnt all x.to = cnt all' x.to) →
    firstE all' pre' r = (firstE all pre r).map (fun p => (p.1 + k, p.2))
  | [], _, _, _, _, _ => rfl
  | x :: r, pre, pre', hk, h1, h2 => by
    have e : lineE (cnt pre' x.lab) (cnt all' x.to) x = lineE (cnt pre x.lab) (cnt all x.to) x :=
      lineE_congr (fun h => by have := h1 x List.mem_cons_self h []; simpa using this.symm) (fun h => (h2 x List.mem_cons_self h).symm)
    have ih := firstE_congr all all' k r (pre ++ [x]) (pre' ++ [x]) (by simp; omega) (fun y hy h q => by rw [List.append_assoc, List.append_assoc]; exact h1 y (List.mem_cons_of_mem _ hy) h _) (fun y hy h => h2 y (List.mem_cons_of_mem _ hy) h)
    simp only [firstE, e]
    split
    · exact ih
    · simp [hk]
theorem firstE_app (all : List Ln) : ∀ (a pre b : List Ln), firstE all pre (a ++ b) = match firstE all pre a with
    | some p => some p
    | none => firstE all (pre ++ a) b
  | [], pre, b => by simp [firstE]
  | x :: a, pre, b => by
    simp only [List.cons_append, firstE]
    split
    · rw [firstE_app all a (pre ++ [x]) b]; simp
    · rfl
theorem goalP_skip (n : Int) : ∀ (l : List Ln) (a : Nat) (d : Int), (∀ x ∈ l, ¬ (0 < x.lab ∧ x.lab = n)) → goalP n a d l = d
  | [], a, d, _ => rfl
  | x :: r, a, d, h => by
    rw [goalP, if_neg (h x List.mem_cons_self)]; exact goalP_skip n r _ d (fun y hy => h y (List.mem_cons_of_mem _ hy))
theorem total_cons (x : Ln) (l : List Ln) : total (x :: l) = x.size + total l := rfl
theorem total_app (l m : List Ln) : total (l ++ m) = total l + total m := by unfold total; simp
theorem goalP_app (n : Int) : ∀ (l m : List Ln) (a : Nat) (d : Int), goalP n a d (l ++ m) = goalP n (a + total l) (goalP n a d l) m
  | [], m, a, d => rfl
  | x :: l, m, a, d => by
    simp only [List.cons_append, goalP]
    rw [goalP_app n l m, total_cons, Nat.add_assoc]
theorem goalP_shift (n : Int) : ∀ (l : List Ln) (a k : Nat) (d : Int), 0 < cnt l n → 0 < n → goalP n (a + k) d l = goalP n a 0 l + k
  | [], a, k, d, h, _ => by simp [cnt] at h
  | x :: l, a, k, d, h, hn => by
    simp only [goalP]
    by_cases hx : 0 < x.lab ∧ x.lab = n
    · rw [if_pos hx, if_pos hx]
      by_cases hc : 0 < cnt l n
      · rw [show a + k + x.size = (a + x.size) + k by omega, goalP_shift n l _ _ _ hc hn]
        have := goalP_shift n l (a + x.size) 0 (a : Int) hc hn
        simp only [Nat.add_zero] at this; rw [this]; omega
      · have h0 : ∀ y ∈ l, ¬ (0 < y.lab ∧ y.lab = n) := by
          have : cnt l n = 0 := by omega
          unfold cnt at this; rw [List.countP_eq_zero] at this
          intro y hy hh; exact this y hy (by simpa using hh.2)
        rw [goalP_skip n l _ _ h0, goalP_skip n l _ _ h0]; omega
    · rw [if_neg hx, if_neg hx, show a + k + x.size = (a + x.size) + k by omega]
      refine goalP_shift n l _ _ _ ?_ hn
      unfold cnt at h ⊢
      rw [List.countP_cons] at h
      have : (x.lab == n) = false := by
        rw [beq_eq_false_iff_ne]; intro e; exact hx ⟨by omega, e⟩
      rw [this] at h; simpa using h
theorem ba_nil (a : ByteArray) : a ++ ⟨#[]⟩ = a := by apply ByteArray.ext; simp
theorem nil_ba (a : ByteArray) : ⟨#[]⟩ ++ a = a := by apply ByteArray.ext; simp
theorem lgo_acc (g : Int → Int) : ∀ (r : List Ln) (a : Nat) (acc : ByteArray), lgo g a r acc = if (lgo g a r ⟨#[]⟩).2 = 0 then (acc ++ (lgo g a r ⟨#[]⟩).1, 0) else (⟨#[]⟩, 2)
  | [], a, acc => by simp [lgo, ba_nil]
  | x :: r, a, acc => by
    simp only [lgo]
    split
    · exact lgo_acc g r a acc
    · split
      · rw [lgo_acc g r _ (acc ++ _), lgo_acc g r _ (⟨#[]⟩ ++ _)]
        by_cases h : (lgo g (a + x.size) r ⟨#[]⟩).2 = 0
        · simp [h, nil_ba, ByteArray.append_assoc]
        · simp [h]
      · simp
theorem lgo_app (g : Int → Int) : ∀ (l m : List Ln) (a : Nat) (acc : ByteArray), lgo g a (l ++ m) acc = if (lgo g a l acc).2 = 0 then lgo g (a + total l) m (lgo g a l acc).1 else (⟨#[]⟩, 2)
  | [], m, a, acc => by simp [lgo, total]
  | x :: l, m, a, acc => by
    simp only [List.cons_append, lgo, total_cons]
    split
    · rename_i h
      rw [lgo_app g l m, h, Nat.zero_add]
    · split
      · rw [lgo_app g l m, Nat.add_assoc]
      · simp
theorem lgo_congr (g h : Int → Int) (k : Nat) : ∀ (r : List Ln) (a : Nat) (acc : ByteArray), (∀ x ∈ r, x.ins.jump = true → x.lab = 0 → h x.to = g x.to + k) → lgo h (a + k) r acc = lgo g a r acc
  | [], a, acc, _ => rfl
  | x :: r, a, acc, hx => by
    have ih := fun a acc => lgo_congr g h k r a acc (fun y hy => hx y (List.mem_cons_of_mem _ hy))
    simp only [lgo]
    by_cases hs : x.size = 0
    · rw [if_pos hs, if_pos hs]; exact ih a acc
    · have hl : x.lab = 0 := by unfold Ln.size at hs; split at hs <;> simp_all
      have e : fix (h x.to) (a + k) x = fix (g x.to) a x := by
        unfold fix
        by_cases hj : x.ins.jump = true
        · rw [if_pos hj, if_pos hj, hx x List.mem_cons_self hj hl, show g x.to + (k : Int) - ((a + k : Nat) : Int) - (x.size : Int) = g x.to - (a : Int) - (x.size : Int) by omega]
        · rw [if_neg hj, if_neg hj]
      rw [if_neg hs, if_neg hs, e, show a + k + x.size = a + x.size + k by omega, ih]
theorem lcheck_ok {l : List Ln} (hs : total l ≤ 1048576) : (lcheck l).2 = 0 ↔ firstE l [] l = none := by
  unfold lcheck
  cases h : firstE l [] l with
  | none => simp [show ¬ 1048576 < total l by omega]
  | some p =>
    simp only [reduceCtorEq, iff_false]
    have : ∀ (all r pre : List Ln), firstE all pre r = some p → p.2 ≠ 0 := by
      intro all r
      induction r with
      | nil => intro pre h; cases h
      | cons x r ih =>
        intro pre h
        simp only [firstE] at h
        split at h
        · exact ih _ h
        · rename_i hn; cases h; exact hn
    exact this _ _ _ h
theorem goal_cnt {all : List Ln} : ∀ {r pre : List Ln}, firstE all pre r = none → ∀ x ∈ r, x.ins.jump = true → x.lab = 0 → 1 ≤ x.to ∧ 0 < cnt all x.to
  | [], _, _, x, hx, _, _ => by cases hx
  | y :: r, pre, h, x, hx, hj, hl => by
    simp only [firstE] at h
    split at h
    · rename_i he
      rcases List.mem_cons.1 hx with rfl | hx
      · unfold lineE at he
        simp only [hl, hj] at he
        have hc : x.ins.chk = true := by unfold Ins.jump at hj; simp only [Bool.and_eq_true] at hj; exact hj.2
        simp [hc] at he
        by_cases h1 : x.ins.imm = 0
        · simp [h1] at he
          omega
        · simp [h1] at he
      · exact goal_cnt h x hx hj hl
    · cases h
/-- The law of two parts. -/
theorem lbytes_cut {a b : List Ln} {k : Int} (hk : 0 ≤ k) (ha : ∀ x ∈ a, x.lab ≤ k ∧ x.to ≤ k) (hs : total a + total b ≤ 1048576) :
    if (lbytes a).2 = 0 ∧ (lbytes b).2 = 0 then lbytes (a ++ b.map (Ln.sh k)) = ((lbytes a).1 ++ (lbytes b).1, 0) else (lbytes (a ++ b.map (Ln.sh k))).2 ≠ 0 := by
  rw [← lbytes_sh hk b]
  have hsc : total a + total (b.map (Ln.sh k)) ≤ 1048576 := by rw [total_sh hk]; exact hs
  have hc : ∀ y ∈ b.map (Ln.sh k), (0 < y.lab → k < y.lab) ∧ (0 < y.to → k < y.to) := by
    intro y hy
    obtain ⟨x, hx, rfl⟩ := List.mem_map.1 hy
    refine ⟨fun h => ?_, fun h => ?_⟩
    · show k < sh k x.lab
      have : 0 < sh k x.lab := h
      unfold sh at this ⊢; split at this
      · rw [if_pos (by assumption)]; omega
      · omega
    · show k < sh k x.to
      have : 0 < sh k x.to := h
      unfold sh at this ⊢; split at this
      · rw [if_pos (by assumption)]; omega
      · omega
  generalize b.map (Ln.sh k) = c at hc hsc ⊢
  have f1 : firstE (a ++ c) [] a = firstE a [] a := by
    have := firstE_congr a (a ++ c) 0 a [] [] rfl (fun _ _ _ _ => rfl) (fun x hx h => by
      rw [cnt_app, cnt_zero (l := c)]; · rfl
      intro y hy e
      have := (hc y hy).1; have := (ha x hx).2; omega)
    rw [this]; cases firstE a [] a <;> simp
  have f2 : firstE (a ++ c) a c = (firstE c [] c).map (fun p => (p.1 + a.length, p.2)) :=
    firstE_congr c (a ++ c) a.length c [] a (by simp) (fun y hy h q => by
      rw [cnt_app, cnt_app, cnt_zero (l := a)]
      · simp [cnt]
      · intro x hx e
        have := (hc y hy).1 h; have := (ha x hx).1; omega) (fun y hy h => by
      rw [cnt_app, cnt_zero (l := a)]; · simp
      intro x hx e
      have := (hc y hy).2 (by omega); have := (ha x hx).1; omega)
  have f3 : firstE (a ++ c) [] (a ++ c) = none ↔ firstE a [] a = none ∧ firstE c [] c = none := by
    rw [firstE_app, f1, List.nil_append]
    cases h1 : firstE a [] a with
    | some p => simp
    | none =>
      simp only [true_and]
      rw [f2]; cases firstE c [] c <;> simp
  have oa := lcheck_ok (l := a) (by omega)
  have oc := lcheck_ok (l := c) (by omega)
  have ob := lcheck_ok (l := a ++ c) (by rw [total_app]; omega)
  by_cases h1 : firstE a [] a = none
  · by_cases h2 : firstE c [] c = none
    · have e1 : lgo (fun n => goalP n 0 0 (a ++ c)) 0 a ⟨#[]⟩ = lgo (fun n => goalP n 0 0 a) 0 a ⟨#[]⟩ := by
        have := lgo_congr (fun n => goalP n 0 0 a) (fun n => goalP n 0 0 (a ++ c)) 0 a 0 ⟨#[]⟩ (fun x hx hj hl => by
          obtain ⟨g1, g2⟩ := goal_cnt h1 x hx hj hl
          show goalP x.to 0 0 (a ++ c) = goalP x.to 0 0 a + (0 : Nat)
          rw [goalP_app, goalP_skip]; · simp
          intro y hy e
          have := (hc y hy).1 e.1; have := (ha x hx).2; omega)
        simpa using this
      have e2 : ∀ acc, lgo (fun n => goalP n 0 0 (a ++ c)) (0 + total a) c acc = lgo (fun n => goalP n 0 0 c) 0 c acc := fun acc =>
        lgo_congr (fun n => goalP n 0 0 c) (fun n => goalP n 0 0 (a ++ c)) (total a) c 0 acc (fun x hx hj hl => by
          obtain ⟨g1, g2⟩ := goal_cnt h2 x hx hj hl
          show goalP x.to 0 0 (a ++ c) = goalP x.to 0 0 c + (total a : Nat)
          rw [goalP_app, goalP_skip x.to a, goalP_shift x.to c 0 (total a) 0 g2 (by omega)]
          intro y hy e
          have := (hc x hx).2 (by omega); have := (ha y hy).1; omega)
      unfold lbytes
      rw [if_pos (oa.2 h1), if_pos (oc.2 h2), if_pos (ob.2 (f3.2 ⟨h1, h2⟩)), lgo_app, e1]
      generalize lgo (fun n => goalP n 0 0 a) 0 a ⟨#[]⟩ = R
      by_cases hR : R.2 = 0
      · rw [if_pos hR, e2, lgo_acc _ c 0 R.1]
        generalize lgo (fun n => goalP n 0 0 c) 0 c ⟨#[]⟩ = T
        by_cases hT : T.2 = 0
        · simp [hR, hT]
        · simp [hR, hT]
      · simp [hR]
    · have n1 : ¬ (lcheck (a ++ c)).2 = 0 := fun h => h2 (f3.1 (ob.1 h)).2
      have n2 : ¬ (lcheck c).2 = 0 := fun h => h2 (oc.1 h)
      unfold lbytes
      rw [if_neg n1, if_neg n2]
      simp [n1, n2]
  · have n1 : ¬ (lcheck (a ++ c)).2 = 0 := fun h => h1 (f3.1 (ob.1 h)).1
    have n2 : ¬ (lcheck a).2 = 0 := fun h => h1 (oa.1 h)
    unfold lbytes
    rw [if_neg n1, if_neg n2]
    simp [n1, n2]
end Go.Proofs.Ytbcaelhchmoigaa.Ly
