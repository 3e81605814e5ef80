/- A decoder of instructions as a plain function on rows of bytes, and that it reads what is put. No program in sight. -/
import Derived.Test.YtakmpnmmcjnecaaEPlain
namespace Go.Proofs.Ytakmpnmmcjnecaa

/-- The rest of the bytes; were there too few? -/
abbrev Cur := List Int × Bool
def nx : Cur → Int × Cur
  | ([], _) => (0, [], true)
  | (b :: r, k) => (b, r, k)
def valD : Nat → Cur → Int × Cur
  | 0, c => (0, c)
  | k + 1, c => ((nx c).1 + 256 * (valD k (nx c).2).1, (valD k (nx c).2).2)
def half (k : Nat) : Int := if k = 1 then 128 else if k = 4 then 2147483648 else 9223372036854775808
def sgnD (k : Nat) (v : Int) : Int := if half k ≤ v then v - 2 * half k else v
def numD (k : Nat) (c : Cur) : Int × Cur := (sgnD k (valD k c).1, (valD k c).2)
def midD (r rm : Int) : Int := rm / 8 % 8 + 8 * (r / 4 % 2)
def idxD (r sib : Int) : Int := sib / 8 % 8 + 8 * (r / 2 % 2)
def lastD (r rm : Int) : Int := rm % 8 + 8 * (r % 2)
def powD (s : Int) : Int := if s = 0 then 1 else if s = 1 then 2 else if s = 2 then 4 else 8
/-- Base, index, scale of a place, and what stands behind. -/
def sibD (r rm : Int) (c : Cur) : (Int × Int × Int) × Cur :=
  if rm % 8 = 4 then ((lastD r (nx c).1, if idxD r (nx c).1 = 4 then -1 else idxD r (nx c).1, if idxD r (nx c).1 = 4 then 1 else powD ((nx c).1 / 64)), (nx c).2)
  else ((lastD r rm, -1, 1), c)
def dispD (rm : Int) (c : Cur) : Int × Cur := if rm / 64 = 1 then numD 1 c else if rm / 64 = 2 then numD 4 c else (0, c)
def pairOp (b : Int) : Int := if b = 1 then 6 else if b = 17 then 7 else if b = 41 then 8 else if b = 25 then 9 else if b = 33 then 10 else if b = 9 then 11 else if b = 49 then 12 else if b = 57 then 13 else if b = 133 then 14 else 0
def grpOp (b m : Int) : Int × Nat :=
  if b = 129 then (if m = 0 then (15, 4) else if m = 4 then (16, 4) else if m = 5 then (17, 4) else if m = 7 then (18, 4) else (0, 0))
  else if b = 247 then (if m = 3 then (22, 0) else if m = 2 then (23, 0) else (0, 0))
  else if b = 193 then (if m = 4 then (24, 1) else if m = 5 then (25, 1) else (0, 0))
  else (0, 0)
def movD (op r rm : Int) (c : Cur) : Ins × Cur :=
  (⟨op, if op = 4 then 0 else midD r rm, if op = 4 then midD r rm else 0, 0, (sibD r rm c).1.1, (sibD r rm c).1.2.1, (sibD r rm c).1.2.2, (dispD rm (sibD r rm c).2).1, 0⟩, (dispD rm (sibD r rm c).2).2)
def pairB (op r rm : Int) (c : Cur) : Ins × Cur := (⟨op, lastD r rm, midD r rm, 0, 0, 0, 0, 0, 0⟩, c)
def storeB (r rm : Int) (c : Cur) : Ins × Cur := if rm / 64 = 3 then pairB 1 r rm c else movD 4 r rm c
def cmovOp (x : Int) : Int := if x = 66 then 26 else if x = 69 then 27 else 0
def cmovB (x r rm : Int) (c : Cur) : Ins × Cur := (⟨cmovOp x, midD r rm, lastD r rm, 0, 0, 0, 0, 0, 0⟩, c)
def grpC (g : Int × Nat) (r rm : Int) (c : Cur) : Ins × Cur :=
  if g.2 = 0 then (⟨g.1, lastD r rm, 0, 0, 0, 0, 0, 0, 0⟩, c) else (⟨g.1, lastD r rm, 0, 0, 0, 0, 0, 0, (numD g.2 c).1⟩, (numD g.2 c).2)
def immB (r b : Int) (c : Cur) : Ins × Cur := (⟨2, lastD r b, 0, 0, 0, 0, 0, 0, (numD 8 c).1⟩, (numD 8 c).2)
def wideB (r b : Int) (c : Cur) : Ins × Cur :=
  if pairOp b ≠ 0 then pairB (pairOp b) r (nx c).1 (nx c).2
  else if b = 139 then movD 3 r (nx c).1 (nx c).2
  else if b = 141 then movD 5 r (nx c).1 (nx c).2
  else if b = 137 then storeB r (nx c).1 (nx c).2
  else if b / 8 = 23 then immB r b c
  else if b = 15 then cmovB (nx c).1 r (nx (nx c).2).1 (nx (nx c).2).2
  else grpC (grpOp b ((nx c).1 / 8 % 8)) r (nx c).1 (nx c).2
def wideD (r : Int) (c : Cur) : Ins × Cur := wideB r (nx c).1 (nx c).2
def jccOp (x : Int) : Int := if x = 133 then 31 else if x = 130 then 32 else 0
def or8 (x : Int) : Int := if x / 8 % 2 = 0 then x + 8 else x
def up8 (i : Ins) : Ins := if i.op = 28 then { i with s := or8 i.s } else { i with d := or8 i.d }
def mulD (x y rm : Int) : Ins := ⟨19, midD ((1 - x / 128) * 4 + (1 - x / 32 % 2)) rm, 15 - y / 8 % 16, lastD ((1 - x / 128) * 4 + (1 - x / 32 % 2)) rm, 0, 0, 0, 0, 0⟩
def chainD (op : Int) (c : Cur) : Ins × Cur :=
  (⟨op, midD (nx c).1 (nx (nx (nx (nx (nx c).2).2).2).2).1, lastD (nx c).1 (nx (nx (nx (nx (nx c).2).2).2).2).1, 0, 0, 0, 0, 0, 0⟩, (nx (nx (nx (nx (nx c).2).2).2).2).2)
def anyD : List Int → Bool → Ins × Cur
  | [], _ => wideD 0 ([], true)
  | b :: r, k =>
    if b = 195 then (⟨33, 0, 0, 0, 0, 0, 0, 0, 0⟩, r, k)
    else if b / 8 = 10 then (⟨28, 0, b % 8, 0, 0, 0, 0, 0, 0⟩, r, k)
    else if b / 8 = 11 then (⟨29, b % 8, 0, 0, 0, 0, 0, 0, 0⟩, r, k)
    else if b = 65 then (up8 (anyD r k).1, (anyD r k).2)
    else if b = 233 then (⟨30, 0, 0, 0, 0, 0, 0, 0, (numD 4 (r, k)).1⟩, (numD 4 (r, k)).2)
    else if b = 15 then (⟨jccOp (nx (r, k)).1, 0, 0, 0, 0, 0, 0, 0, (numD 4 (nx (r, k)).2).1⟩, (numD 4 (nx (r, k)).2).2)
    else if b = 196 then (mulD (nx (r, k)).1 (nx (nx (r, k)).2).1 (nx (nx (nx (nx (r, k)).2).2).2).1, (nx (nx (nx (nx (r, k)).2).2).2).2)
    else if b = 102 then chainD 20 (r, k)
    else if b = 243 then chainD 21 (r, k)
    else wideD b (r, k)

theorem nx_cons (b : Int) (r : List Int) (k : Bool) : nx (b :: r, k) = (b, r, k) := rfl
theorem mid_both (a x b : Int) (ha : Reg a) (_hb : Reg b) (hx : hiR x = 0 ∨ hiR x = 1) : midD (rexI a x b) (bothI a b) = a ∧ lastD (rexI a x b) (bothI a b) = b := by
  unfold Reg at ha _hb
  unfold midD lastD rexI bothI
  unfold loR
  have h1 : hiR a = a / 8 := by unfold hiR; split <;> omega
  have h2 : hiR b = b / 8 := by unfold hiR; split <;> omega
  rw [h1, h2]
  omega
theorem anyD_rex (R : Int) (l : List Int) (k : Bool) (h : 72 ≤ R ∧ R ≤ 79) : anyD (R :: l) k = wideD R (l, k) := by
  rw [anyD, if_neg (by omega), if_neg (by omega), if_neg (by omega), if_neg (by omega), if_neg (by omega), if_neg (by omega), if_neg (by omega), if_neg (by omega), if_neg (by omega)]
theorem half1 : half 1 = 128 := rfl
theorem half4 : half 4 = 2147483648 := rfl
theorem half8 : half 8 = 9223372036854775808 := rfl
theorem sgn_lo {k : Nat} {v : Int} (h : v < half k) : sgnD k v = v := by unfold sgnD; rw [if_neg (by omega)]
theorem sgn_hi {k : Nat} {v : Int} (h : half k ≤ v) : sgnD k v = v - 2 * half k := by unfold sgnD; rw [if_pos h]
theorem num1 (n : Int) (r : List Int) (b : Bool) (h : -128 ≤ n ∧ n ≤ 127) : numD 1 (littleL n 1 ++ r, b) = (n, r, b) := by
  have e : valD 1 (littleL n 1 ++ r, b) = (n % 256, r, b) := by
    simp only [valD, littleL, List.cons_append, List.nil_append, nx_cons, Prod.mk.injEq, and_true]
    omega
  unfold numD
  rw [e]
  rcases Int.lt_or_le (n % 256) (half 1) with h1 | h1
  · rw [sgn_lo h1]; rw [half1] at h1; simp only [Prod.mk.injEq, and_true]; omega
  · rw [sgn_hi h1]; rw [half1] at h1 ⊢; simp only [Prod.mk.injEq, and_true]; omega
theorem num4 (n : Int) (r : List Int) (b : Bool) (h : -2147483648 ≤ n ∧ n ≤ 2147483647) : numD 4 (littleL n 4 ++ r, b) = (n, r, b) := by
  have e : valD 4 (littleL n 4 ++ r, b) = (n % 4294967296, r, b) := by
    simp only [valD, littleL, List.cons_append, List.nil_append, nx_cons, Prod.mk.injEq, and_true]
    omega
  unfold numD
  rw [e]
  rcases Int.lt_or_le (n % 4294967296) (half 4) with h1 | h1
  · rw [sgn_lo h1]; rw [half4] at h1; simp only [Prod.mk.injEq, and_true]; omega
  · rw [sgn_hi h1]; rw [half4] at h1 ⊢; simp only [Prod.mk.injEq, and_true]; omega
theorem num8 (n : Int) (r : List Int) (b : Bool) (h : -9223372036854775808 ≤ n ∧ n ≤ 9223372036854775807) : numD 8 (littleL n 8 ++ r, b) = (n, r, b) := by
  have e : valD 8 (littleL n 8 ++ r, b) = (n % 18446744073709551616, r, b) := by
    simp only [valD, littleL, List.cons_append, List.nil_append, nx_cons, Prod.mk.injEq, and_true]
    omega
  unfold numD
  rw [e]
  rcases Int.lt_or_le (n % 18446744073709551616) (half 8) with h1 | h1
  · rw [sgn_lo h1]; rw [half8] at h1; simp only [Prod.mk.injEq, and_true]; omega
  · rw [sgn_hi h1]; rw [half8] at h1 ⊢; simp only [Prod.mk.injEq, and_true]; omega
theorem num1u (n : Int) (r : List Int) (b : Bool) (h : 1 ≤ n ∧ n ≤ 63) : numD 1 (n :: r, b) = (n, r, b) := by
  have e : valD 1 (n :: r, b) = (n, r, b) := by
    simp only [valD, nx_cons, Prod.mk.injEq, and_true]
    omega
  unfold numD
  rw [e, sgn_lo (by rw [half1]; omega)]
theorem plc_open {mb mi ms md : Int} (h : plc mb mi ms md = true) : Reg mb ∧ (-2147483648 ≤ md ∧ md ≤ 2147483647) ∧ (mi = -1 ∧ ms = 1 ∨ mi ≠ -1 ∧ Reg mi ∧ mi ≠ 4 ∧ (ms = 1 ∨ ms = 2 ∨ ms = 4 ∨ ms = 8)) := by
  have f := plc_facts h
  refine ⟨f.1, f.2.1, ?_⟩
  unfold plc at h
  simp only [Bool.and_eq_true] at h
  by_cases hm : mi = -1
  · have h2 := h.2
    rw [if_pos hm] at h2
    exact .inl ⟨hm, by simpa using h2⟩
  · have h2 := h.2
    rw [if_neg hm] at h2
    simp only [Bool.and_eq_true, bne_iff_ne] at h2
    exact .inr ⟨hm, reg_of h2.1.1, h2.1.2, f.2.2.2⟩
theorem disp_dec (mb md rm x : Int) (r : List Int) (b : Bool) (hx : 0 ≤ x ∧ x ≤ 63) (hrm : rm = 64 * modI mb md + x) (hd : -2147483648 ≤ md ∧ md ≤ 2147483647) : dispD rm (littleL md (lenI mb md) ++ r, b) = (md, r, b) := by
  unfold dispD
  by_cases h1 : md = 0 ∧ loR mb ≠ 5
  · have e1 : modI mb md = 0 := by unfold modI; rw [if_pos h1]
    have e2 : lenI mb md = 0 := by unfold lenI; rw [if_pos h1]
    rw [e1] at hrm
    rw [e2, if_neg (by omega), if_neg (by omega), h1.1]; rfl
  · cases hb : byteB md
    · have e1 : modI mb md = 2 := by unfold modI; rw [if_neg h1, hb]; rfl
      have e2 : lenI mb md = 4 := by unfold lenI; rw [if_neg h1, hb]; rfl
      rw [e1] at hrm
      rw [e2, if_neg (by omega), if_pos (by omega), num4 _ _ _ hd]
    · have e1 : modI mb md = 1 := by unfold modI; rw [if_neg h1, hb]; rfl
      have e2 : lenI mb md = 1 := by unfold lenI; rw [if_neg h1, hb]; rfl
      rw [e1] at hrm
      have hb' : -128 ≤ md ∧ md ≤ 127 := by unfold byteB at hb; simpa using hb
      rw [e2, if_pos (by omega), num1 _ _ _ hb']
theorem modI_b (mb md : Int) : 0 ≤ modI mb md ∧ modI mb md ≤ 2 := by unfold modI; split <;> (try split) <;> omega
theorem reg_split {x : Int} (h : Reg x) : x = loR x + 8 * hiR x := by unfold Reg at h; unfold loR hiR; split <;> omega
theorem hi_none : hiR (-1) = 0 := by decide
theorem pow_scale {ms : Int} (h : ms = 1 ∨ ms = 2 ∨ ms = 4 ∨ ms = 8) : powD (scaleI ms) = ms ∧ 0 ≤ scaleI ms ∧ scaleI ms ≤ 3 := by
  rcases h with rfl | rfl | rfl | rfl <;> decide
theorem rex_parts (a x b : Int) : rexI a x b / 4 % 2 = hiR a ∧ rexI a x b / 2 % 2 = hiR x ∧ rexI a x b % 2 = hiR b := by
  have h1 := hiR_b a; have h2 := hiR_b x; have h3 := hiR_b b
  unfold rexI; omega
theorem place_dec (mid mb mi ms md : Int) (hm : Reg mid) (h : plc mb mi ms md = true) (r : List Int) (b : Bool) :
    ∃ rm l, placeL mid mb mi ms md ++ r = rm :: l ∧ 0 ≤ rm ∧ rm < 192 ∧ ∀ op, movD op (rexI mid mi mb) rm (l, b) = (⟨op, if op = 4 then 0 else mid, if op = 4 then mid else 0, 0, mb, mi, ms, md, 0⟩, r, b) := by
  obtain ⟨hb, hd, hi⟩ := plc_open h
  have m1 := modI_b mb md
  have l1 := loR_b mid; have l2 := loR_b mb; have l3 := loR_b mi
  have r1 := reg_split hm; have r2 := reg_split hb
  obtain ⟨p1, p2, p3⟩ := rex_parts mid mi mb
  have hlo : loR mid = loR mid := rfl
  by_cases hn : mi = -1
  · rcases hi with ⟨_, hs⟩ | ⟨h1, _⟩
    · by_cases h4 : loR mb = 4
      · refine ⟨rmI (modI mb md) mid 4, sibI ms 4 mb :: (littleL md (lenI mb md) ++ r), ?_, ?_, ?_, ?_⟩
        · unfold placeL; rw [if_neg (by simp [hn]), if_pos h4]; rfl
        · unfold rmI; omega
        · unfold rmI; omega
        · intro op
          have hsc : scaleI ms = 0 := by rw [hs]; rfl
          have hmid : midD (rexI mid mi mb) (rmI (modI mb md) mid 4) = mid := by unfold midD rmI; rw [p1]; omega
          have hsib : sibD (rexI mid mi mb) (rmI (modI mb md) mid 4) (sibI ms 4 mb :: (littleL md (lenI mb md) ++ r), b) = ((mb, mi, ms), littleL md (lenI mb md) ++ r, b) := by
            unfold sibD
            rw [if_pos (by unfold rmI; omega), nx_cons]
            have hx : idxD (rexI mid mi mb) (sibI ms 4 mb) = 4 := by unfold idxD sibI; rw [p2, hn, hi_none, hsc]; omega
            have hlast : lastD (rexI mid mi mb) (sibI ms 4 mb) = mb := by unfold lastD sibI; rw [p3, hsc]; omega
            rw [hx, hlast, hn, hs]; rfl
          unfold movD
          rw [hsib, hmid, disp_dec mb md _ (8 * loR mid + 4) r b (by omega) (by unfold rmI; omega) hd]
      · refine ⟨rmI (modI mb md) mid (loR mb), littleL md (lenI mb md) ++ r, ?_, ?_, ?_, ?_⟩
        · unfold placeL; rw [if_neg (by simp [hn]), if_neg h4]; rfl
        · unfold rmI; omega
        · unfold rmI; omega
        · intro op
          have hmid : midD (rexI mid mi mb) (rmI (modI mb md) mid (loR mb)) = mid := by unfold midD rmI; rw [p1]; omega
          have hsib : sibD (rexI mid mi mb) (rmI (modI mb md) mid (loR mb)) (littleL md (lenI mb md) ++ r, b) = ((mb, mi, ms), littleL md (lenI mb md) ++ r, b) := by
            unfold sibD
            rw [if_neg (by unfold rmI; omega)]
            have hlast : lastD (rexI mid mi mb) (rmI (modI mb md) mid (loR mb)) = mb := by unfold lastD rmI; rw [p3]; omega
            rw [hlast, hn, hs]
          unfold movD
          rw [hsib, hmid, disp_dec mb md _ (8 * loR mid + loR mb) r b (by omega) (by unfold rmI; omega) hd]
    · exact absurd hn h1
  · rcases hi with ⟨h1, _⟩ | ⟨_, hri, hi4, hs⟩
    · exact absurd h1 hn
    · have r3 := reg_split hri
      obtain ⟨q1, q2, q3⟩ := pow_scale hs
      refine ⟨rmI (modI mb md) mid 4, sibI ms (loR mi) mb :: (littleL md (lenI mb md) ++ r), ?_, ?_, ?_, ?_⟩
      · unfold placeL; rw [if_pos hn]; rfl
      · unfold rmI; omega
      · unfold rmI; omega
      · intro op
        have hmid : midD (rexI mid mi mb) (rmI (modI mb md) mid 4) = mid := by unfold midD rmI; rw [p1]; omega
        have hsib : sibD (rexI mid mi mb) (rmI (modI mb md) mid 4) (sibI ms (loR mi) mb :: (littleL md (lenI mb md) ++ r), b) = ((mb, mi, ms), littleL md (lenI mb md) ++ r, b) := by
          unfold sibD
          rw [if_pos (by unfold rmI; omega), nx_cons]
          have hx : idxD (rexI mid mi mb) (sibI ms (loR mi) mb) = mi := by unfold idxD sibI; rw [p2]; omega
          have hlast : lastD (rexI mid mi mb) (sibI ms (loR mi) mb) = mb := by unfold lastD sibI; rw [p3]; omega
          have hsc : sibI ms (loR mi) mb / 64 = scaleI ms := by unfold sibI; omega
          rw [hx, hlast, hsc, if_neg hi4, if_neg hi4, q1]
        unfold movD
        rw [hsib, hmid, disp_dec mb md _ (8 * loR mid + 4) r b (by omega) (by unfold rmI; omega) hd]
end Go.Proofs.Ytakmpnmmcjnecaa
