/- Words told again are scanned as they were: plain. -/
import Derived.Test.YtbcbldjnbibigaaSc19
import Derived.Test.YtbcbldjnbibigaaSc13
set_option linter.unusedVariables false
set_option linter.unusedSimpArgs false
namespace Go.Proofs.Ytbcbldjnbibigaa
open Go Go.RowKit SL

theorem size_of {s : ByteArray} {l : List UInt8} (h : Bl s = l) : s.size = l.length := by rw [← bl_len, h]
theorem run_goes {s : ByteArray} {st : Int} {f : Nat} {r : List UInt8} : ∀ {u pre : List UInt8}, GoesL st u → Bl s = pre ++ (u ++ r) → runP s pre.length st f = runP s (pre.length + u.length) st f := by
  intro u pre h
  induction h generalizing pre with
  | nil => intro _; rfl
  | cons l hl hg hk _ ih =>
    intro hs
    have hle := decL_le hl
    have hsz := size_of hs
    rw [List.length_append, List.length_append] at hsz
    have h0 : 0 < l.length := List.length_pos_iff.2 hl
    have hd : (Bl s).drop pre.length = l ++ r := by rw [hs, List.drop_left]
    have e := decL_app r hl hg
    rw [runP, dif_pos (by omega)]
    rw [hd, e, if_neg hg, if_pos hk]
    have e2 : pre ++ (l ++ r) = (pre ++ l.take (decL l).2) ++ (l.drop (decL l).2 ++ r) := by
      rw [List.append_assoc, ← List.append_assoc (l.take _), List.take_append_drop]
    have e3 : (pre ++ l.take (decL l).2).length = pre.length + (decL l).2 := by rw [List.length_append, List.length_take, Nat.min_eq_left hle]
    have := ih (pre := pre ++ l.take (decL l).2) (by rw [hs, e2])
    rw [e3, List.length_drop] at this
    rw [this]
    congr 1
    omega
theorem decL_asc {c : UInt8} (h : c.toNat < 128) (r : List UInt8) : decL (c :: r) = (c.toNat, 1) := by
  rw [decL_F]
  have hb0 : bt (c :: r) 0 = c.toNat := rfl
  rw [hb0]; unfold decF; rw [if_pos h]
theorem asc_good {c : UInt8} (h : c.toNat < 128) (r : List UInt8) : decL (c :: r) ≠ (65533, 1) := by
  rw [decL_asc h]; simp; omega
/-- What may stand behind a word: nothing, white, a comment. -/
def Sepr (r : List UInt8) : Prop := r = [] ∨ ∃ c r', r = c :: r' ∧ c.toNat < 128 ∧ (kindR (c.toNat : Int) = 1 ∨ kindR (c.toNat : Int) = 2)
theorem goes_white (r kd : Int) : goesR 1 r kd = false := by unfold goesR; rw [if_neg (by decide), if_neg (by decide), if_neg (by decide)]
theorem end_white (s : ByteArray) (f to : Nat) (b : Bool) : endT s 1 f to b = ([], none) := by unfold endT; rw [if_neg (by decide), if_neg (by decide)]
/-- A word's end. -/
theorem run_end {s : ByteArray} {st : Int} {f q : Nat} {r : List UInt8} {tk : Tok} (hst : st = 3 ∨ st = 4) (hq : q ≤ s.size) (hr : (Bl s).drop q = r) (hs : Sepr r) (hE : endT s st f q false = ([tk], none)) : runP s q st f = (tk :: (runP s q 1 0).1, (runP s q 1 0).2) := by
  rcases hs with rfl | ⟨c, r', rfl, hc, hk⟩
  · have hq' : s.size = q := by
      have := congrArg List.length hr
      rw [List.length_drop, bl_len] at this; simp at this; omega
    have e1 : runP s q st f = ([tk], q, 0) := by rw [runP, dif_neg (by omega), hq', hE]
    have e2 : runP s q 1 0 = ([], q, 0) := by rw [runP, dif_neg (by omega), end_white, hq']
    rw [e1, e2]
  · have hlt : q < s.size := by
      have := congrArg List.length hr
      rw [List.length_drop, bl_len, List.length_cons] at this; omega
    have hg : goesR st (c.toNat : Int) (kindR (c.toNat : Int)) = false := by
      unfold goesR
      rcases hst with rfl | rfl <;> rcases hk with h | h <;> rw [h] <;> rfl
    have hc3 : cm .eql (kindR (c.toNat : Int)) 3 = false := by rcases hk with h | h <;> rw [h] <;> rfl
    have h0 : ¬ kindR (c.toNat : Int) = 0 := by rcases hk with h | h <;> rw [h] <;> decide
    have h5 : ¬ kindR (c.toNat : Int) = 5 := by rcases hk with h | h <;> rw [h] <;> decide
    have e1 : runP s q st f = (tk :: (runP s (q + 1) (kindR (c.toNat : Int)) q).1, (runP s (q + 1) (kindR (c.toNat : Int)) q).2) := by
      rw [runP, dif_pos hlt, hr, decL_asc hc, if_neg (by simp; omega)]
      simp only [hg, Bool.false_eq_true, if_false, hc3, hE, if_neg h0, if_neg h5]
      rfl
    have e2 : runP s q 1 0 = runP s (q + 1) (kindR (c.toNat : Int)) q := by
      rw [runP, dif_pos hlt, hr, decL_asc hc, if_neg (by simp; omega)]
      simp only [goes_white, Bool.false_eq_true, if_false, end_white, if_neg h0, if_neg h5, List.nil_append]
    rw [e1, e2]
/-- A word, wherever it stands. -/
theorem run_word {s : ByteArray} {k : Int} {t r pre : List UInt8} (hw : Wd k t) (hs : Bl s = pre ++ (t ++ r)) (hr : Sepr r) (g : Nat) :
    runP s pre.length 1 g = (⟨k, ⟨t.toArray⟩, pre.length⟩ :: (runP s (pre.length + t.length) 1 0).1, (runP s (pre.length + t.length) 1 0).2) := by
  have hsz := size_of hs
  rw [List.length_append, List.length_append] at hsz
  have hd : (Bl s).drop pre.length = t ++ r := by rw [hs, List.drop_left]
  have hx : s.extract pre.length (pre.length + t.length) = ⟨t.toArray⟩ := by
    apply bl_inj
    rw [bl_extract, hd, Nat.add_sub_cancel_left, List.take_left]
  have hdq : (Bl s).drop (pre.length + t.length) = r := by rw [← List.drop_drop, hd, List.drop_left]
  rcases hw with ⟨rfl, c, rfl, hc, h5⟩ | ⟨ht, hg, hk⟩
  · have hlt : pre.length < s.size := by simp at hsz; omega
    rw [runP, dif_pos hlt, hd]
    rw [show ([c] ++ r : List UInt8) = c :: r from rfl, decL_asc hc, if_neg (by simp; omega)]
    simp only [goes_white, Bool.false_eq_true, if_false, end_white, h5]
    rw [if_neg (by decide), if_pos trivial]
    rw [runP_white s _ _ 0]
    have hx' : s.extract pre.length (pre.length + 1) = ⟨#[c]⟩ := hx
    rw [hx']
    rfl
  · have h0 : 0 < t.length := List.length_pos_iff.2 ht
    have hlt : pre.length < s.size := by omega
    have hle := decL_le ht
    have hst : ∃ st : Int, (st = 3 ∨ st = 4) ∧ kindR (decL t).1 = st ∧ GoesL st (t.drop (decL t).2) ∧ endT s st pre.length (pre.length + t.length) false = ([⟨k, ⟨t.toArray⟩, pre.length⟩], none) := by
      rcases hk with ⟨rfl, hk, hgo⟩ | ⟨rfl, hk, hgo, hn⟩
      · refine ⟨3, .inl rfl, hk, hgo, ?_⟩
        unfold endT; rw [if_pos rfl, hx]
      · refine ⟨4, .inr rfl, hk, hgo, ?_⟩
        unfold endT
        rw [if_neg (by decide), if_pos rfl, hx, if_pos, if_neg (by decide)]
        have : sne (⟨t.toArray⟩ : ByteArray) ⟨#[]⟩ = true := by
          show (!(seq _ _)) = true
          rw [seq_bl]
          show (!decide (t.toArray.toList = [])) = true
          simp [ht]
        rw [this]
        show ((numL (Bl ⟨t.toArray⟩) 0).isSome && true) = true
        rw [show Bl (⟨t.toArray⟩ : ByteArray) = t from rfl, hn]; rfl
    obtain ⟨st, hst, hks, hgo, hE⟩ := hst
    have e1 : runP s pre.length 1 g = runP s (pre.length + (decL t).2) st pre.length := by
      rw [runP, dif_pos hlt, hd, decL_app r ht hg, if_neg hg]
      simp only [goes_white, Bool.false_eq_true, if_false, end_white, hks, List.nil_append]
      rw [if_neg (by rcases hst with h | h <;> rw [h] <;> decide), if_neg (by rcases hst with h | h <;> rw [h] <;> decide)]
    have e2 : pre ++ (t ++ r) = (pre ++ t.take (decL t).2) ++ (t.drop (decL t).2 ++ r) := by
      rw [List.append_assoc, ← List.append_assoc (t.take _), List.take_append_drop]
    have e3 : (pre ++ t.take (decL t).2).length = pre.length + (decL t).2 := by rw [List.length_append, List.length_take, Nat.min_eq_left hle]
    have e4 := run_goes (s := s) (f := pre.length) (pre := pre ++ t.take (decL t).2) hgo (by rw [hs, e2])
    rw [e3, List.length_drop] at e4
    rw [e1, e4, show pre.length + (decL t).2 + (t.length - (decL t).2) = pre.length + t.length by omega]
    exact run_end hst (by omega) hdq hr hE
/-- Texts, a blank between two. -/
def textL : List Tok → List UInt8
  | [] => []
  | [t] => Bl t.t
  | t :: u :: r => Bl t.t ++ (32 :: textL (u :: r))
def reloc : List Tok → Nat → List Tok
  | [], _ => []
  | t :: r, p => ⟨t.k, t.t, p⟩ :: reloc r (p + t.t.size + 1)
theorem run_white {s : ByteArray} {p g : Nat} {c : UInt8} {r : List UInt8} (h : (Bl s).drop p = c :: r) (hc : c.toNat < 128) (hk : kindR (c.toNat : Int) = 1) : runP s p 1 g = runP s (p + 1) 1 0 := by
  have hlt : p < s.size := by
    have := congrArg List.length h
    rw [List.length_drop, bl_len, List.length_cons] at this; omega
  rw [runP, dif_pos hlt, h, decL_asc hc, if_neg (by simp; omega)]
  simp only [goes_white, Bool.false_eq_true, if_false, end_white, hk, List.nil_append]
  rw [if_neg (by decide), if_neg (by decide)]
  exact runP_white _ _ _ _
theorem run_text {s : ByteArray} : ∀ (ts : List Tok) (pre : List UInt8), (∀ t ∈ ts, Wd t.k (Bl t.t)) → Bl s = pre ++ textL ts → runP s pre.length 1 0 = (reloc ts pre.length, s.size, 0)
  | [], pre, _, hs => by
    have hsz := size_of hs
    simp [textL] at hsz
    rw [runP, dif_neg (by omega), end_white]; rfl
  | [t], pre, hw, hs => by
    have := run_word (s := s) (pre := pre) (t := Bl t.t) (hw t (by simp)) (r := []) (by rw [hs]; simp [textL]) (.inl rfl) 0
    rw [this]
    have hsz := size_of hs
    simp [textL] at hsz
    rw [runP, dif_neg (by rw [bl_len]; omega), end_white]
    simp [reloc]
  | t :: u :: r, pre, hw, hs => by
    have hs' : Bl s = pre ++ (Bl t.t ++ (32 :: textL (u :: r))) := hs
    have h32 : (32 : UInt8).toNat < 128 ∧ kindR ((32 : UInt8).toNat : Int) = 1 := by decide
    rw [run_word (hw t (by simp)) hs' (.inr ⟨32, _, rfl, h32.1, .inl h32.2⟩) 0]
    have hd : (Bl s).drop (pre.length + (Bl t.t).length) = 32 :: textL (u :: r) := by rw [hs', ← List.drop_drop, List.drop_left, List.drop_left]
    rw [run_white hd h32.1 h32.2]
    have e : Bl s = (pre ++ Bl t.t ++ [32]) ++ textL (u :: r) := by rw [hs']; simp
    have hl : (pre ++ Bl t.t ++ [32]).length = pre.length + (Bl t.t).length + 1 := by simp; omega
    have := run_text (u :: r) (pre ++ Bl t.t ++ [32]) (fun x hx => hw x (List.mem_cons_of_mem _ hx)) e
    rw [hl] at this
    rw [this]
    simp only [reloc, bl_len]
theorem textL_snoc : ∀ (xs : List Tok) (t : Tok), textL (xs ++ [t]) = textL xs ++ ((if xs = [] then [] else [32]) ++ Bl t.t)
  | [], t => by simp [textL]
  | [a], t => by simp [textL]
  | a :: b :: r, t => by
    have := textL_snoc (b :: r) t
    simp only [List.cons_append] at this ⊢
    simp only [textL]
    rw [this]
    simp
theorem textN_L (xs : List Tok) : ∀ i, i ≤ xs.length → textN xs i = textL (xs.take i)
  | 0, _ => rfl
  | i + 1, h => by
    obtain ⟨x, hx⟩ : ∃ x, xs[i]? = some x := ⟨_, List.getElem?_eq_getElem (by omega)⟩
    rw [take_succ_eq hx, textL_snoc, ← textN_L xs i (by omega)]
    show (match xs[i]? with | none => textN xs i | some t => textN xs i ++ (if i = 0 then [] else [32]) ++ Bl t.t) = _
    rw [hx]
    simp only [List.append_assoc]
    congr 2
    by_cases h0 : i = 0
    · subst h0; simp
    · rw [if_neg h0, if_neg]
      intro e
      have := congrArg List.length e
      rw [List.length_take, Nat.min_eq_left (by omega), List.length_nil] at this; omega
theorem reloc_len : ∀ (xs : List Tok) (p : Nat), (reloc xs p).length = xs.length
  | [], _ => rfl
  | t :: r, p => by simp [reloc, reloc_len r]
theorem reloc_at : ∀ (xs : List Tok) (p i : Nat) (t : Tok), xs[i]? = some t → ∃ q, (reloc xs p)[i]? = some ⟨t.k, t.t, q⟩
  | [], _, _, _, h => by simp at h
  | a :: r, p, 0, t, h => by cases h; exact ⟨p, rfl⟩
  | a :: r, p, i + 1, t, h => reloc_at r _ i t (by simpa using h)
theorem reloc_text : ∀ (xs : List Tok) (p : Nat), textL (reloc xs p) = textL xs
  | [], _ => rfl
  | [t], p => rfl
  | t :: u :: r, p => by
    have := reloc_text (u :: r) (p + t.t.size + 1)
    simp only [reloc] at this ⊢
    simp only [textL]
    rw [this]
theorem lay_text {s : ByteArray} : ∀ {ts : List Tok} {lo : Nat}, Lay s lo ts → lo ≤ s.size → (textL ts).length ≤ s.size - lo + ts.length
  | [], lo, _, _ => by simp [textL]
  | [t], lo, h, hlo => by
    have h1 := h.1; have h2 := h.2.1
    show (Bl t.t).length ≤ s.size - lo + 1
    rw [bl_len]; omega
  | t :: u :: r, lo, h, hlo => by
    have h1 := h.1; have h2 := h.2.1
    have := lay_text h.2.2.2 h2
    simp only [textL, List.length_append, List.length_cons, bl_len] at this ⊢
    omega
/-- Words of Text of words. -/
theorem text_again (s : ByteArray) (hs : s.size ≤ 20000) : allP ⟨(textN (allP s).1 (allP s).1.length).toArray⟩ = (reloc (allP s).1 0, (textN (allP s).1 (allP s).1.length).length, 0) ∧ (textN (allP s).1 (allP s).1.length).length ≤ s.size + (allP s).1.length := by
  have hl := lay_text (allP_lay s) (Nat.zero_le _)
  have hn := allP_len s
  rw [textN_L _ _ (Nat.le_refl _), List.take_length]
  have hsz : (⟨(textL (allP s).1).toArray⟩ : ByteArray).size = (textL (allP s).1).length := by
    rw [← bl_len]
  refine ⟨?_, by omega⟩
  have := run_text (s := ⟨(textL (allP s).1).toArray⟩) (allP s).1 [] (allP_wd s) rfl
  rw [hsz] at this
  unfold allP
  rw [if_neg (by show ¬ 65536 < (⟨(textL (allP s).1).toArray⟩ : ByteArray).size; rw [hsz]; omega)]
  have h2 : runP ⟨(textL (allP s).1).toArray⟩ 0 1 0 = (reloc (allP s).1 0, (textL (allP s).1).length, 0) := this
  show (if (runP ⟨(textL (allP s).1).toArray⟩ 0 1 0).2.2 ≠ 0 then ([], (runP ⟨(textL (allP s).1).toArray⟩ 0 1 0).2) else runP ⟨(textL (allP s).1).toArray⟩ 0 1 0) = (reloc (allP s).1 0, (textL (allP s).1).length, 0)
  rw [h2, if_neg (by simp)]
end Go.Proofs.Ytbcbldjnbibigaa
