/- scan.All in one contract; the law's lives; how many words there are. -/
import Derived.Test.YtbackpcohkblfaaSc13
import Derived.Test.YtbackpcohkblfaaSc11
import Derived.Test.YtbackpcohkblfaaSepY
set_option linter.unusedVariables false
set_option linter.unusedSimpArgs false
namespace Go.Proofs.Ytbackpcohkblfaa
open Go Go.RowKit SL
attribute [local irreducible] SL.L SL.C SL.D SL.N SL.H SL.QL SL.QW

/-- What All tells. -/
def allP (s : ByteArray) : List Tok × Nat × Int :=
  if 65536 < s.size then ([], 0, 3) else if (runP s 0 1 0).2.2 ≠ 0 then ([], (runP s 0 1 0).2) else runP s 0 1 0
theorem all_T (s : ByteArray) : Ctr Try.prog 9 [.string s] [] tt (fun v B => ∃ y, osG 3 (allP s).1.length ((allP s).1.flatMap encT) y ∧ v = shut [osV (allP s).1.length y, .int .i64 ((allP s).2.1 : Nat), .int .i64 (allP s).2.2] ∧ B = osC 28 y []) := by
  unfold allP
  split
  · rename_i h
    refine (all_long s h).mono ?_
    rintro v B ⟨rfl, rfl⟩
    exact ⟨none, osG.nil, rfl, rfl⟩
  · rename_i h
    split
    · rename_i he
      refine (all_bad s (by omega) he).mono ?_
      rintro v B ⟨rfl, rfl⟩
      exact ⟨none, osG.nil, rfl, rfl⟩
    · rename_i he
      have he0 : (runP s 0 1 0).2.2 = 0 := by simpa using he
      refine (all_S s (by omega) he0).mono ?_
      rintro v B ⟨y, hG, rfl, rfl⟩
      rw [he0]
      rcases y with _ | ⟨b, l, cap⟩
      · have hG' : (runP s 0 1 0).1 = [] := hG
        rw [hG']
        exact ⟨none, osG.nil, rfl, rfl⟩
      · exact ⟨some (b, l, cap), hG, rfl, rfl⟩
theorem endT_len (s : ByteArray) (k : Int) (f to : Nat) (b : Bool) : (endT s k f to b).1.length ≤ 1 := by
  unfold endT
  repeat' split
  all_goals simp
theorem runP_len (s : ByteArray) : ∀ (n p : Nat) (k : Int) (f : Nat), s.size - p = n → (runP s p k f).1.length ≤ 2 * n + 1 := by
  intro n
  induction n using Nat.strongRecOn with
  | _ n ih =>
    intro p k f hn
    have hw := decL_w ((Bl s).drop p)
    have e1 := endT_len s k f p false
    have e2 := endT_len s k f p (cm .eql (kindR (decL ((Bl s).drop p)).1) 3)
    have e3 := endT_len s k f s.size false
    rw [runP]
    split
    · rename_i hlt
      have i1 := ih (s.size - (p + (decL ((Bl s).drop p)).2)) (by omega) (p + (decL ((Bl s).drop p)).2)
      generalize endT s k f p false = E1 at *
      generalize endT s k f p (cm .eql (kindR (decL ((Bl s).drop p)).1) 3) = E2 at *
      obtain ⟨t1, x1⟩ := E1
      obtain ⟨t2, x2⟩ := E2
      simp only at e1 e2
      split
      · split
        · simp
        · rcases x1 with _ | x1 <;> (simp only; omega)
      · split
        · have := i1 k f rfl; omega
        · rcases x2 with _ | x2
          · simp only
            split
            · simp only; omega
            · split
              · have := i1 1 p rfl
                simp only [List.length_append, List.length_cons, List.length_nil]; omega
              · have := i1 (kindR (decL ((Bl s).drop p)).1) p rfl
                simp only [List.length_append]; omega
          · simp only; omega
    · generalize endT s k f s.size false = E3 at *
      obtain ⟨t3, x3⟩ := E3
      simp only at e3
      rcases x3 with _ | x3 <;> (simp only; omega)
theorem allP_len (s : ByteArray) : (allP s).1.length ≤ 2 * s.size + 1 := by
  unfold allP
  split
  · simp
  · split
    · simp
    · exact runP_len s _ 0 1 0 rfl
theorem endT_at (s : ByteArray) (k : Int) (f to : Nat) (b : Bool) {ts : List Tok} {x : Nat × Int} (h : endT s k f to b = (ts, some x)) (hf : f ≤ s.size) (ht : to ≤ s.size) : x.1 ≤ s.size := by
  unfold endT at h
  repeat' split at h
  all_goals
    simp only [Prod.mk.injEq, Option.some.injEq, reduceCtorEq, and_false] at h
  all_goals
    obtain ⟨_, rfl⟩ := h
    assumption
theorem runP_at (s : ByteArray) : ∀ (n p : Nat) (k : Int) (f : Nat), s.size - p = n → f ≤ p → p ≤ s.size → (runP s p k f).2.1 ≤ s.size := by
  intro n
  induction n using Nat.strongRecOn with
  | _ n ih =>
    intro p k f hn hf hp
    have hw := decL_w ((Bl s).drop p)
    have e1 := fun ts x => endT_at s k f p false (ts := ts) (x := x)
    have e2 := fun ts x => endT_at s k f p (cm .eql (kindR (decL ((Bl s).drop p)).1) 3) (ts := ts) (x := x)
    have e3 := fun ts x => endT_at s k f s.size false (ts := ts) (x := x)
    rw [runP]
    split
    · rename_i hlt
      have hle := decL_le (drop_ne hlt)
      rw [List.length_drop, bl_len] at hle
      have i1 := ih (s.size - (p + (decL ((Bl s).drop p)).2)) (by omega) (p + (decL ((Bl s).drop p)).2)
      generalize endT s k f p false = E1 at *
      generalize endT s k f p (cm .eql (kindR (decL ((Bl s).drop p)).1) 3) = E2 at *
      obtain ⟨t1, x1⟩ := E1
      obtain ⟨t2, x2⟩ := E2
      split
      · split
        · exact hp
        · rcases x1 with _ | x1
          · exact hp
          · exact e1 _ _ rfl (by omega) hp
      · split
        · exact i1 k f rfl (by omega) (by omega)
        · rcases x2 with _ | x2
          · simp only
            split
            · exact hp
            · split
              · exact i1 1 p rfl (by omega) (by omega)
              · exact i1 _ p rfl (by omega) (by omega)
          · exact e2 _ _ rfl (by omega) hp
    · generalize endT s k f s.size false = E3 at *
      obtain ⟨t3, x3⟩ := E3
      rcases x3 with _ | x3
      · exact Nat.le_refl _
      · exact e3 _ _ rfl (by omega) (Nat.le_refl _)
theorem allP_at (s : ByteArray) : (allP s).2.1 ≤ s.size := by
  unfold allP
  split
  · exact Nat.zero_le _
  · split
    · exact runP_at s _ 0 1 0 rfl (Nat.le_refl _) (Nat.zero_le _)
    · exact runP_at s _ 0 1 0 rfl (Nat.le_refl _) (Nat.zero_le _)
/-- For the kernel: with fuel. -/
def numF : Nat → List UInt8 → Nat → Option Nat
  | 0, _, _ => none
  | n + 1, l, a => if l = [] then some a else if isDig (decL l).1 && decide (a ≤ (18446744073709551615 - ((decL l).1 - 48)) / 10) then numF n (l.drop (decL l).2) (10 * a + ((decL l).1 - 48)) else none
theorem numF_eq : ∀ (n : Nat) (l : List UInt8) (a : Nat), l.length < n → numF n l a = numL l a
  | 0, l, a, h => by omega
  | n + 1, l, a, h => by
    rw [numL]
    unfold numF
    by_cases hl : l = []
    · rw [if_pos hl, dif_pos hl]
    · rw [if_neg hl, dif_neg hl]
      have hw := decL_w l
      have h0 : 0 < l.length := List.length_pos_iff.2 hl
      split
      · exact numF_eq n _ _ (by rw [List.length_drop]; omega)
      · rfl
def endF (s : ByteArray) (k : Int) (f to : Nat) (behind : Bool) : List Tok × Option (Nat × Int) :=
  if k = 3 then ([⟨1, s.extract f to, f⟩], none)
  else if k = 4 then
    if ((numF (s.size + 1) (Bl (s.extract f to)) 0).isSome && sne (s.extract f to) ⟨#[]⟩) = true then (if behind = true then ([], some (to, 7)) else ([⟨2, s.extract f to, f⟩], none)) else ([], some (f, 3))
  else ([], none)
theorem endF_eq (s : ByteArray) (k : Int) (f to : Nat) (b : Bool) : endF s k f to b = endT s k f to b := by
  unfold endF endT
  rw [numF_eq (s.size + 1) (Bl (s.extract f to)) 0 (by rw [bl_extract, List.length_take, List.length_drop, bl_len]; omega)]
def runF (s : ByteArray) : Nat → Nat → Int → Nat → List Tok × Nat × Int
  | 0, p, _, _ => ([], p, 99)
  | n + 1, p, k, f =>
    if p < s.size then
      if decL ((Bl s).drop p) = (65533, 1) then
        (if k = 2 then ([], p, 4) else match endF s k f p false with
          | (ts, none) => (ts, p, 4)
          | (ts, some x) => (ts, x))
      else if goesR k (decL ((Bl s).drop p)).1 (kindR (decL ((Bl s).drop p)).1) = true then runF s n (p + (decL ((Bl s).drop p)).2) k f
      else match endF s k f p (cm .eql (kindR (decL ((Bl s).drop p)).1) 3) with
        | (ts, some x) => (ts, x)
        | (ts, none) =>
          if kindR (decL ((Bl s).drop p)).1 = 0 then (ts, p, 7)
          else if kindR (decL ((Bl s).drop p)).1 = 5 then
            ((ts ++ [⟨3, s.extract p (p + 1), p⟩]) ++ (runF s n (p + (decL ((Bl s).drop p)).2) 1 p).1, (runF s n (p + (decL ((Bl s).drop p)).2) 1 p).2)
          else (ts ++ (runF s n (p + (decL ((Bl s).drop p)).2) (kindR (decL ((Bl s).drop p)).1) p).1, (runF s n (p + (decL ((Bl s).drop p)).2) (kindR (decL ((Bl s).drop p)).1) p).2)
    else match endF s k f s.size false with
      | (ts, none) => (ts, s.size, 0)
      | (ts, some x) => (ts, x)
theorem runF_eq (s : ByteArray) : ∀ (n p : Nat) (k : Int) (f : Nat), s.size - p < n → runF s n p k f = runP s p k f
  | 0, p, k, f, h => by omega
  | n + 1, p, k, f, h => by
    have hw := decL_w ((Bl s).drop p)
    rw [runP]
    unfold runF
    simp only [endF_eq]
    by_cases hlt : p < s.size
    · rw [if_pos hlt, dif_pos hlt]
      simp only [fun k f => runF_eq s n (p + (decL ((Bl s).drop p)).2) k f (by omega)]
      rfl
    · rw [if_neg hlt, dif_neg hlt]
      rfl
theorem allP_eval {s : ByteArray} {r : List Tok × Nat × Int} (h : (if (runF s (s.size + 1) 0 1 0).2.2 ≠ 0 then ([], (runF s (s.size + 1) 0 1 0).2) else runF s (s.size + 1) 0 1 0) = r) (hs : Nat.ble s.size 65536 = true) : allP s = r := by
  unfold allP
  rw [if_neg (by have := Nat.le_of_ble_eq_true hs; omega), ← runF_eq s (s.size + 1) 0 1 0 (by omega)]
  exact h
theorem ex1 : allP ⟨#[97, 49, 61, 50, 43, 32, 35, 32, 120]⟩ = ([⟨1, ⟨#[97, 49]⟩, 0⟩, ⟨3, ⟨#[61]⟩, 2⟩, ⟨2, ⟨#[50]⟩, 3⟩, ⟨3, ⟨#[43]⟩, 4⟩], 9, 0) := allP_eval (by kernel_rfl) rfl
theorem ex2 : allP ⟨#[50, 97]⟩ = ([], 1, 7) := allP_eval (by kernel_rfl) rfl
theorem ex3 : allP ⟨#[49, 56, 52, 52, 54, 55, 52, 52, 48, 55, 51, 55, 48, 57, 53, 53, 49, 54, 49, 54]⟩ = ([], 0, 3) := allP_eval (by kernel_rfl) rfl
end Go.Proofs.Ytbackpcohkblfaa
