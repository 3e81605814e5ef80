/- Plain, for LayoutJumps: what stands in the bytes of lines. -/
import Derived.Test.YtbcaelhchmoigaaLiP
set_option linter.unusedVariables false
set_option linter.unusedSimpArgs false
namespace Go.Proofs.Ytbcaelhchmoigaa.Ly
open Go Go.RowKit Calm SL

def setI (x : Ins) (n : Int) : Ins := ⟨x.op, x.d, x.s, x.t, x.mb, x.mi, x.ms, x.md, n⟩
theorem jump_set {x : Ins} (h : x.jump = true) (n : Int) (hn : -2147483648 ≤ n ∧ n ≤ 2147483647) : (setI x n).jump = true ∧ (setI x n).chk = true ∧ (setI x n).out.size = x.out.size := by
  have hc := jump_chk h
  have hk : (setI x n).chk = true ∧ (setI x n).enc.length = x.enc.length := by
    obtain ⟨op, d, s, t, mb, mi, ms, md, imm⟩ := x
    unfold Ins.jump Ins.chk at h
    simp only [Bool.and_eq_true, Bool.or_eq_true, beq_iff_eq] at h
    obtain ⟨(rfl | rfl) | rfl, h⟩ := h
    · rw [chk_30] at h
      refine ⟨by show chk 30 d s t mb mi ms md n = true; rw [chk_30]; exact ⟨hn, h.2⟩, ?_⟩
      show (jumpL 233 0 n).length = (jumpL 233 0 imm).length
      unfold jumpL; split <;> simp [littleL_length]
    · rw [chk_31] at h
      refine ⟨by show chk 31 d s t mb mi ms md n = true; rw [chk_31]; exact ⟨hn, h.2⟩, ?_⟩
      show (jumpL 15 133 n).length = (jumpL 15 133 imm).length
      unfold jumpL; split <;> simp [littleL_length]
    · rw [chk_32] at h
      refine ⟨by show chk 32 d s t mb mi ms md n = true; rw [chk_32]; exact ⟨hn, h.2⟩, ?_⟩
      show (jumpL 15 130 n).length = (jumpL 15 130 imm).length
      unfold jumpL; split <;> simp [littleL_length]
  refine ⟨?_, hk.1, by rw [out_enc hk.1, out_enc hc, hk.2]⟩
  unfold Ins.jump at h ⊢
  simp only [Bool.and_eq_true] at h ⊢
  exact ⟨h.1, hk.1⟩
/-- What a line without an error is. -/
theorem lineE_ok {a n : Nat} {x : Ln} (h : lineE a n x = 0) : 0 ≤ x.lab ∧ (x.lab = 0 → x.ins.chk = true ∧ (x.ins.jump = true → x.ins.imm = 0 ∧ 1 ≤ x.to ∧ 0 < n)) := by
  unfold lineE at h
  by_cases h1 : x.lab < 0
  · rw [if_pos (.inl h1)] at h; cases h
  refine ⟨by omega, fun hl => ?_⟩
  rw [if_neg (by omega), if_neg (by omega), if_neg (by omega)] at h
  cases hc : x.ins.chk with
  | false => simp [hc] at h
  | true =>
  refine ⟨rfl, fun hj => ?_⟩
  by_cases hi : x.ins.imm = 0
  · simp [hc, hj, hi] at h
    exact ⟨hi, by omega, by omega⟩
  · simp [hc, hj, hi] at h
theorem firstE_each {all : List Ln} : ∀ {r pre : List Ln}, firstE all pre r = none → ∀ x ∈ r, ∃ a, lineE a (cnt all x.to) x = 0
  | [], _, _, x, hx => by cases hx
  | y :: r, pre, h, x, hx => by
    rw [firstE_step] at h
    split at h
    · rename_i he
      rcases List.mem_cons.1 hx with rfl | hx
      · exact ⟨_, he⟩
      · exact firstE_each h x hx
    · cases h
/-- The bytes of lines, as numbers. -/
def encs (g : Int → Int) : Nat → List Ln → List Int
  | _, [] => []
  | a, x :: r => if x.lab = 0 then (fix (g x.to) a x).enc ++ encs g (a + x.size) r else encs g a r
/-- What a line stands for in code. -/
theorem fix_ok {g : Int → Int} {a n b : Nat} {x : Ln} (h : lineE b n x = 0) (hl : x.lab = 0) (hg : 0 ≤ g x.to ∧ g x.to ≤ 100000) (ha : a ≤ 100000) :
    (fix (g x.to) a x).chk = true ∧ (fix (g x.to) a x).out.size = x.size ∧ (fix (g x.to) a x).jump = x.ins.jump ∧ (x.ins.jump = true → setI (fix (g x.to) a x) 0 = x.ins) ∧ (x.ins.jump = false → fix (g x.to) a x = x.ins) := by
  obtain ⟨hc, hj⟩ := (lineE_ok h).2 hl
  have hs : x.size = x.ins.out.size := if_pos hl
  have hsz := size_le x
  unfold fix
  cases hjj : x.ins.jump with
  | true =>
    obtain ⟨h1, _, _⟩ := hj hjj
    obtain ⟨j1, j2, j3⟩ := jump_set hjj (g x.to - a - x.size) (by omega)
    rw [if_pos rfl]
    refine ⟨j2, j3.trans hs.symm, j1, fun _ => ?_, fun h => by cases h⟩
    obtain ⟨lab, ⟨op, d, s, t, mb, mi, ms, md, imm⟩, to⟩ := x
    simp only at h1
    subst h1; rfl
  | false =>
    rw [if_neg (by simp)]
    exact ⟨hc, hs.symm, hjj, fun h => by simp [hjj] at h, fun _ => rfl⟩
theorem lgo_encs {g : Int → Int} {all : List Ln} (hg : ∀ n, 0 ≤ g n ∧ g n ≤ 100000) : ∀ {r : List Ln} {a : Nat} (acc : ByteArray), a + total r ≤ 100000 → (∀ x ∈ r, ∃ b, lineE b (cnt all x.to) x = 0) →
    (lgo g a r acc).2 = 0 ∧ bytesOf (lgo g a r acc).1 = bytesOf acc ++ encs g a r
  | [], a, acc, _, _ => ⟨rfl, by show bytesOf acc = bytesOf acc ++ []; rw [List.append_nil]⟩
  | x :: r, a, acc, ht, he => by
    rw [total_cons] at ht
    have ih := fun a acc h => lgo_encs (all := all) hg (r := r) (a := a) acc h (fun y hy => he y (List.mem_cons_of_mem _ hy))
    obtain ⟨b, hb⟩ := he x List.mem_cons_self
    rw [lgo_step]
    unfold encs
    by_cases hl : x.lab = 0
    · obtain ⟨f1, f2, _⟩ := fix_ok (g := g) (a := a) hb hl (hg _) (by omega)
      have hp := out_pos f1
      rw [if_neg (by omega), if_pos f1, if_pos hl]
      obtain ⟨i1, i2⟩ := ih (a + x.size) (acc ++ (fix (g x.to) a x).out) (by omega)
      refine ⟨i1, ?_⟩
      rw [i2]
      have e1 : bytesOf (acc ++ (fix (g x.to) a x).out) = bytesOf acc ++ bytesOf (fix (g x.to) a x).out := by unfold bytesOf; simp
      rw [e1, Ins.out_ok f1, bytesOf_strB (Ins.enc_bytes f1).1, List.append_assoc]
    · have hs : x.size = 0 := if_neg hl
      rw [if_pos hs, if_neg hl]
      exact ih a acc (by omega)
/-- What stands behind a line's place. -/
theorem encs_drop {g : Int → Int} {all : List Ln} (hg : ∀ n, 0 ≤ g n ∧ g n ≤ 100000) : ∀ {pre : List Ln} {a : Nat} (r : List Ln), a + total (pre ++ r) ≤ 100000 → (∀ x ∈ pre, ∃ b, lineE b (cnt all x.to) x = 0) →
    (encs g a (pre ++ r)).drop (total pre) = encs g (a + total pre) r
  | [], a, r, _, _ => rfl
  | x :: pre, a, r, ht, he => by
    rw [List.cons_append, total_cons] at ht
    have ih := fun a h => encs_drop (all := all) hg (pre := pre) (a := a) r h (fun y hy => he y (List.mem_cons_of_mem _ hy))
    obtain ⟨b, hb⟩ := he x List.mem_cons_self
    rw [List.cons_append, total_cons]
    unfold encs
    by_cases hl : x.lab = 0
    · obtain ⟨f1, f2, _⟩ := fix_ok (g := g) (a := a) hb hl (hg _) (by omega)
      rw [if_pos hl]
      have e : (fix (g x.to) a x).enc.length = x.size := by rw [← f2, out_enc f1]
      rw [← e, ← List.drop_drop, List.drop_left, e, ih (a + x.size) (by omega), Nat.add_assoc]
      cases r <;> rfl
    · have hs : x.size = 0 := if_neg hl
      rw [if_neg hl, hs, Nat.zero_add, ih a (by omega)]
      cases r <;> simp [encs]
/-- A label's place. -/
theorem goalP_at (n : Int) : ∀ {l : List Ln} {a : Nat} {d : Int}, 0 < n → 0 < cnt l n → ∃ k x, l[k]? = some x ∧ x.lab = n ∧ goalP n a d l = ((a + total (l.take k) : Nat) : Int)
  | [], a, d, _, h => by simp [cnt] at h
  | x :: l, a, d, hn, h => by
    rw [goalP]
    by_cases hc : 0 < cnt l n
    · obtain ⟨k, y, h1, h2, h3⟩ := goalP_at n (l := l) (a := a + x.size) (d := if 0 < x.lab ∧ x.lab = n then (a : Int) else d) hn hc
      exact ⟨k + 1, y, by simpa using h1, h2, by rw [h3, List.take_succ_cons, total_cons, Nat.add_assoc]⟩
    · have h0 : ∀ y ∈ l, ¬ (0 < y.lab ∧ y.lab = n) := by
        have : cnt l n = 0 := by omega
        unfold cnt at this; rw [List.countP_eq_zero] at this
        intro y hy hh; exact this y hy (by simpa using hh.2)
      have hx : x.lab = n := by
        unfold cnt at h hc
        rw [List.countP_cons] at h
        by_cases hx : x.lab = n
        · exact hx
        · have : (x.lab == n) = false := by simpa using hx
          rw [this, if_neg (by simp)] at h; exact absurd h hc
      rw [goalP_skip n l _ _ h0, if_pos (show 0 < x.lab ∧ x.lab = n from ⟨by omega, hx⟩)]
      exact ⟨0, x, rfl, hx, by simp [total]⟩
theorem encs_len {g : Int → Int} {all : List Ln} (hg : ∀ n, 0 ≤ g n ∧ g n ≤ 100000) : ∀ {r : List Ln} {a : Nat}, a + total r ≤ 100000 → (∀ x ∈ r, ∃ b, lineE b (cnt all x.to) x = 0) → (encs g a r).length = total r
  | [], a, _, _ => rfl
  | x :: r, a, ht, he => by
    rw [total_cons] at ht ⊢
    have ih := fun a h => encs_len (all := all) hg (r := r) (a := a) h (fun y hy => he y (List.mem_cons_of_mem _ hy))
    obtain ⟨b, hb⟩ := he x List.mem_cons_self
    unfold encs
    by_cases hl : x.lab = 0
    · obtain ⟨f1, f2, _⟩ := fix_ok (g := g) (a := a) hb hl (hg _) (by omega)
      rw [if_pos hl, List.length_append, ih (a + x.size) (by omega), ← out_enc f1, f2]
    · have hs : x.size = 0 := if_neg hl
      rw [if_neg hl, ih a (by omega), hs, Nat.zero_add]
theorem places_eq (l : List Ln) (h : (lcheck l).2 = 0) : plc l = places 0 l := by unfold plc; rw [if_pos h]
theorem lcheck_le (l : List Ln) : (lcheck l).1 ≤ l.length := by
  unfold lcheck
  cases h : firstE l [] l with
  | none => exact Nat.le_refl _
  | some p =>
    have : ∀ (r pre : List Ln) (q : Nat × Int), firstE l pre r = some q → q.1 ≤ pre.length + r.length := by
      intro r
      induction r with
      | nil => intro pre q h; cases h
      | cons x r ih =>
        intro pre q h
        rw [firstE_step] at h
        split at h
        · have := ih _ _ h
          simp only [List.length_append, List.length_cons, List.length_nil] at this ⊢; omega
        · cases h; simp
    have := this l [] p h
    simpa using this
/-- The law of jumps. -/
theorem jumps_law {l : List Ln} (hl : l.length ≤ 1000) (hok : ∀ x ∈ l, x.ok) (h : (lcheck l).2 = 0) :
    (lcheck l).1 = l.length ∧ (lbytes l).2 = 0 ∧ (lbytes l).1.size = total l ∧
    ∀ (i : Nat) (x : Ln), l[i]? = some x → x.lab = 0 → ∃ z : Ins, rdD ((bytesOf (lbytes l).1).drop (total (l.take i))) = (z, x.size, 0) ∧ total (l.take i) < (lbytes l).1.size ∧ z.ok ∧ z.jump = x.ins.jump ∧ (x.ins.jump = false → z = x.ins) ∧
      (x.ins.jump = true → setI z 0 = x.ins ∧ ∃ k y, l[k]? = some y ∧ y.lab = x.to ∧ (total (l.take k) : Int) = total (l.take i) + x.size + z.imm) := by
  have htl := total_le l
  have hF := (lcheck_ok (by omega)).1 h
  have he : ∀ x ∈ l, ∃ b, lineE b (cnt l x.to) x = 0 := firstE_each hF
  obtain ⟨g, hg⟩ : ∃ g, g = fun n => goalP n 0 0 l := ⟨_, rfl⟩
  have hgl : ∀ n, 0 ≤ g n ∧ g n ≤ 100000 := fun n => by
    rw [hg]
    have := goal_le n l 0 0 (by omega) (by omega)
    simp only; omega
  have hB : lbytes l = lgo g 0 l ⟨#[]⟩ := by unfold lbytes; rw [if_pos h, hg]
  obtain ⟨b1, b2⟩ := lgo_encs (all := l) hgl (r := l) (a := 0) ⟨#[]⟩ (by omega) he
  rw [← hB] at b1 b2
  have b3 : bytesOf (lbytes l).1 = encs g 0 l := b2
  have hsz : (lbytes l).1.size = total l := by rw [← bytesOf_length, b3, encs_len (all := l) hgl (by omega) he]
  refine ⟨?_, b1, hsz, fun i x hx hz => ?_⟩
  · unfold lcheck; rw [hF]
  obtain ⟨hi, hxi⟩ := List.getElem?_eq_some_iff.1 hx
  have hsplit : l = l.take i ++ x :: l.drop (i + 1) := by rw [← drop_eq hx, List.take_append_drop]
  have htot : total l = total (l.take i) + (x.size + total (l.drop (i + 1))) := by
    conv => lhs; rw [hsplit]
    rw [total_app, total_cons]
  obtain ⟨b, hb⟩ := he x (List.mem_of_getElem? hx)
  obtain ⟨f1, f2, f3, f4, f5⟩ := fix_ok (g := g) (a := total (l.take i)) hb hz (hgl _) (by omega)
  have hd : (encs g 0 l).drop (total (l.take i)) = encs g (0 + total (l.take i)) (x :: l.drop (i + 1)) := by
    conv => lhs; arg 2; rw [hsplit]
    exact encs_drop (all := l) hgl (x :: l.drop (i + 1)) (by rw [← hsplit]; omega) (fun y hy => he y (List.mem_of_mem_take hy))
  have hzo : (fix (g x.to) (total (l.take i)) x).ok := by
    have hxo := (hok x (List.mem_of_getElem? hx)).2.1
    have := hgl x.to
    have := size_le x
    unfold fix; split
    · exact ⟨hxo.1, by show _ ≤ g x.to - (total (l.take i) : Int) - x.size ∧ g x.to - (total (l.take i) : Int) - x.size ≤ _; omega⟩
    · exact hxo
  refine ⟨fix (g x.to) (total (l.take i)) x, ?_, ?_, hzo, f3, f5, fun hj => ⟨f4 hj, ?_⟩⟩
  · rw [b3, hd, Nat.zero_add]
    have hu : encs g (total (l.take i)) (x :: l.drop (i + 1)) = (fix (g x.to) (total (l.take i)) x).enc ++ encs g (total (l.take i) + x.size) (l.drop (i + 1)) := by
      show (if x.lab = 0 then _ else _) = _
      rw [if_pos hz]
    rw [hu, rd_hit _ _ f1 hzo, ← out_enc f1, f2]
  · have := out_pos f1
    rw [hsz, htot]; omega
  · obtain ⟨_, t1, t2⟩ := ((lineE_ok hb).2 hz).2 hj
    obtain ⟨k, y, k1, k2, k3⟩ := goalP_at x.to (l := l) (a := 0) (d := 0) (by omega) t2
    refine ⟨k, y, k1, k2, ?_⟩
    have hi2 : (fix (g x.to) (total (l.take i)) x).imm = g x.to - (total (l.take i) : Int) - x.size := by unfold fix; rw [if_pos hj]
    rw [hi2, hg]
    simp only
    rw [k3]; omega
end Go.Proofs.Ytbcaelhchmoigaa.Ly
