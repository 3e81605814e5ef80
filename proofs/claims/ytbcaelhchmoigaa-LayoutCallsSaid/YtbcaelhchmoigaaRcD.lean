import Derived.Test.YtbcaelhchmoigaaMH
namespace Go.Proofs.Ytbcaelhchmoigaa
def grpR (r b rm : Int) (c : Cur) : Ins × Cur :=
  if b = 129 then (⟨(grpOp 129 (midD r rm)).1, lastD r rm, 0, 0, 0, 0, 0, 0, (numD 4 c).1⟩, (numD 4 c).2)
  else if (grpOp b (midD r rm)).1 = 0 then pairB 0 r rm c
  else grpC (grpOp b (midD r rm)) r rm c
def wideRB (r b : Int) (c : Cur) : Ins × Cur :=
  if pairOp b ≠ 0 then pairB (pairOp b) r (nx c).1 (nx c).2
  else if b = 139 then movD 3 r (nx c).1 (nx c).2
  else if b = 141 then movD 5 r (nx c).1 (nx c).2
  else if b = 137 then storeB r (nx c).1 (nx c).2
  else if b / 8 = 23 then immB r b c
  else if b = 15 then cmovB (nx c).1 r (nx (nx c).2).1 (nx (nx c).2).2
  else grpR r b (nx c).1 (nx c).2
def wideR (r : Int) (c : Cur) : Ins × Cur := wideRB r (nx c).1 (nx c).2
def anyR : List Int → Bool → Ins × Cur
  | [], _ => wideR 0 ([], true)
  | b :: r, k =>
    if b = 195 then (⟨33, 0, 0, 0, 0, 0, 0, 0, 0⟩, r, k)
    else if b / 8 = 10 then (⟨28, 0, b % 8, 0, 0, 0, 0, 0, 0⟩, r, k)
    else if b / 8 = 11 then (⟨29, b % 8, 0, 0, 0, 0, 0, 0, 0⟩, r, k)
    else if b = 65 then (if (nx (r, k)).1 < 88 then (⟨28, 0, (nx (r, k)).1 % 8 + 8, 0, 0, 0, 0, 0, 0⟩, (nx (r, k)).2) else (⟨29, (nx (r, k)).1 % 8 + 8, 0, 0, 0, 0, 0, 0, 0⟩, (nx (r, k)).2))
    else if b = 233 then (⟨30, 0, 0, 0, 0, 0, 0, 0, (numD 4 (r, k)).1⟩, (numD 4 (r, k)).2)
    else if b = 15 then (⟨if (nx (r, k)).1 = 133 then 31 else 32, 0, 0, 0, 0, 0, 0, 0, (numD 4 (nx (r, k)).2).1⟩, (numD 4 (nx (r, k)).2).2)
    else if b = 196 then (mulD (nx (r, k)).1 (nx (nx (r, k)).2).1 (nx (nx (nx (nx (r, k)).2).2).2).1, (nx (nx (nx (nx (r, k)).2).2).2).2)
    else if b = 102 then chainD 20 (r, k)
    else if b = 243 then chainD 21 (r, k)
    else wideR b (r, k)
theorem anyR_rex (R : Int) (l : List Int) (k : Bool) (h : 72 ≤ R ∧ R ≤ 79) : anyR (R :: l) k = wideR R (l, k) := by
  rw [anyR, if_neg (by omega), if_neg (by omega), if_neg (by omega), if_neg (by omega), if_neg (by omega), if_neg (by omega), if_neg (by omega), if_neg (by omega), if_neg (by omega)]
theorem emid (m d : Int) (h : 0 ≤ m ∧ m ≤ 7) (hd : Reg d) : midD (rexI 0 0 d) (bothI m d) = m := by
  have e := (both_mid m d h hd).1
  obtain ⟨p1, _, _⟩ := rex_parts 0 0 d
  unfold midD
  rw [e, p1, show hiR 0 = 0 from rfl]; omega
theorem decr_pair (op c d s : Int) (r : List Int) (hp : pairOp c = op) (ho : op ≠ 0) (hd : Reg d) (hs : Reg s) :
    anyR ([rexI s 0 d, c, bothI s d] ++ r) false = (⟨op, d, s, 0, 0, 0, 0, 0, 0⟩, r, false) := by
  show anyR (rexI s 0 d :: c :: bothI s d :: r) false = _
  rw [anyR_rex _ _ _ (rexI_b s 0 d)]
  show wideRB (rexI s 0 d) c (bothI s d :: r, false) = _
  obtain ⟨e1, e2⟩ := mid_both s 0 d hs hd (.inl hiR_z)
  unfold wideRB
  rw [if_pos (show pairOp c ≠ 0 by rw [hp]; exact ho), hp, nx_cons]
  unfold pairB
  rw [e1, e2]
theorem decr_mov (d s : Int) (r : List Int) (hd : Reg d) (hs : Reg s) :
    anyR ([rexI s 0 d, 137, bothI s d] ++ r) false = (⟨1, d, s, 0, 0, 0, 0, 0, 0⟩, r, false) := by
  show anyR (rexI s 0 d :: 137 :: bothI s d :: r) false = _
  rw [anyR_rex _ _ _ (rexI_b s 0 d)]
  show wideRB (rexI s 0 d) 137 (bothI s d :: r, false) = _
  obtain ⟨e1, e2⟩ := mid_both s 0 d hs hd (.inl hiR_z)
  unfold wideRB
  rw [if_neg (by decide), if_neg (by decide), if_neg (by decide), if_pos rfl, nx_cons]
  unfold storeB pairB
  rw [if_pos (both_64 s d), e1, e2]
theorem decr_wide (d imm : Int) (r : List Int) (hd : Reg d) (hn : -9223372036854775808 ≤ imm ∧ imm ≤ 9223372036854775807) :
    anyR ([rexI 0 0 d, 184 + loR d] ++ littleL imm 8 ++ r) false = (⟨2, d, 0, 0, 0, 0, 0, 0, imm⟩, r, false) := by
  show anyR (rexI 0 0 d :: (184 + loR d) :: (littleL imm 8 ++ r)) false = _
  rw [anyR_rex _ _ _ (rexI_b 0 0 d)]
  have l := loR_b d
  have rs := reg_split hd
  obtain ⟨p1, p2, p3⟩ := rex_parts 0 0 d
  have hp : pairOp (184 + loR d) = 0 := by unfold pairOp; repeat rw [if_neg (by omega)]
  show wideRB (rexI 0 0 d) (184 + loR d) (littleL imm 8 ++ r, false) = _
  unfold wideRB
  rw [if_neg (show ¬ pairOp (184 + loR d) ≠ 0 by rw [hp]; decide), if_neg (by omega), if_neg (by omega), if_neg (by omega), if_pos (by omega)]
  unfold immB
  rw [num8 _ _ _ hn]
  have hl : lastD (rexI 0 0 d) (184 + loR d) = d := by unfold lastD; rw [p3]; omega
  rw [hl]
theorem decr_load (op c d mb mi ms md : Int) (r : List Int) (hc : c = 139 ∧ op = 3 ∨ c = 141 ∧ op = 5) (hd : Reg d) (hp : plc mb mi ms md = true) :
    anyR ([rexI d mi mb, c] ++ placeL d mb mi ms md ++ r) false = (⟨op, d, 0, 0, mb, mi, ms, md, 0⟩, r, false) := by
  obtain ⟨rm, l, e, h0, h1, h2⟩ := place_dec d mb mi ms md hd hp r false
  show anyR (rexI d mi mb :: c :: (placeL d mb mi ms md ++ r)) false = _
  rw [anyR_rex _ _ _ (rexI_b d mi mb), e]
  show wideRB (rexI d mi mb) c (rm :: l, false) = _
  unfold wideRB
  rcases hc with ⟨rfl, rfl⟩ | ⟨rfl, rfl⟩
  · rw [if_neg (by decide), if_pos rfl, nx_cons, h2]; rfl
  · rw [if_neg (by decide), if_neg (by decide), if_pos rfl, nx_cons, h2]; rfl
theorem decr_store (s mb mi ms md : Int) (r : List Int) (hs : Reg s) (hp : plc mb mi ms md = true) :
    anyR ([rexI s mi mb, 137] ++ placeL s mb mi ms md ++ r) false = (⟨4, 0, s, 0, mb, mi, ms, md, 0⟩, r, false) := by
  obtain ⟨rm, l, e, h0, h1, h2⟩ := place_dec s mb mi ms md hs hp r false
  show anyR (rexI s mi mb :: 137 :: (placeL s mb mi ms md ++ r)) false = _
  rw [anyR_rex _ _ _ (rexI_b s mi mb), e]
  show wideRB (rexI s mi mb) 137 (rm :: l, false) = _
  unfold wideRB
  rw [if_neg (by decide), if_neg (by decide), if_neg (by decide), if_pos rfl, nx_cons]
  unfold storeB
  rw [if_neg (by omega), h2]; rfl
theorem decr_move (op m d s : Int) (r : List Int) (hc : m = 66 ∧ op = 26 ∨ m = 69 ∧ op = 27) (hd : Reg d) (hs : Reg s) :
    anyR ([rexI d 0 s, 15, m, bothI d s] ++ r) false = (⟨op, d, s, 0, 0, 0, 0, 0, 0⟩, r, false) := by
  show anyR (rexI d 0 s :: 15 :: m :: bothI d s :: r) false = _
  rw [anyR_rex _ _ _ (rexI_b d 0 s)]
  show wideRB (rexI d 0 s) 15 (m :: bothI d s :: r, false) = _
  obtain ⟨e1, e2⟩ := mid_both d 0 s hd hs (.inl hiR_z)
  unfold wideRB
  rw [if_neg (by decide), if_neg (by decide), if_neg (by decide), if_neg (by decide), if_neg (by decide), if_pos rfl, nx_cons, nx_cons]
  unfold cmovB
  rw [e1, e2]
  rcases hc with ⟨rfl, rfl⟩ | ⟨rfl, rfl⟩ <;> rfl
theorem decr_grp0 (op c m d : Int) (r : List Int) (h1 : pairOp c = 0) (h2 : c = 247) (hg : grpOp c m = (op, 0)) (ho : op ≠ 0) (hm : 0 ≤ m ∧ m ≤ 7) (hd : Reg d) :
    anyR ([rexI 0 0 d, c, bothI m d] ++ r) false = (⟨op, d, 0, 0, 0, 0, 0, 0, 0⟩, r, false) := by
  show anyR (rexI 0 0 d :: c :: bothI m d :: r) false = _
  rw [anyR_rex _ _ _ (rexI_b 0 0 d)]
  show wideRB (rexI 0 0 d) c (bothI m d :: r, false) = _
  obtain ⟨e1, e2⟩ := both_mid m d hm hd
  unfold wideRB
  rw [if_neg (show ¬ pairOp c ≠ 0 by rw [h1]; decide), if_neg (by omega), if_neg (by omega), if_neg (by omega), if_neg (by omega), if_neg (by omega), nx_cons]
  unfold grpR
  rw [if_neg (by omega), emid m d hm hd, hg, if_neg ho]
  unfold grpC
  rw [if_pos rfl, e2]
theorem decr_grp4 (op m d imm : Int) (r : List Int) (hg : grpOp 129 m = (op, 4)) (hm : 0 ≤ m ∧ m ≤ 7) (hd : Reg d) (hn : -2147483648 ≤ imm ∧ imm ≤ 2147483647) :
    anyR ([rexI 0 0 d, 129, bothI m d] ++ littleL imm 4 ++ r) false = (⟨op, d, 0, 0, 0, 0, 0, 0, imm⟩, r, false) := by
  show anyR (rexI 0 0 d :: 129 :: bothI m d :: (littleL imm 4 ++ r)) false = _
  rw [anyR_rex _ _ _ (rexI_b 0 0 d)]
  show wideRB (rexI 0 0 d) 129 (bothI m d :: (littleL imm 4 ++ r), false) = _
  obtain ⟨e1, e2⟩ := both_mid m d hm hd
  unfold wideRB
  rw [if_neg (by decide), if_neg (by decide), if_neg (by decide), if_neg (by decide), if_neg (by decide), if_neg (by decide), nx_cons]
  unfold grpR
  rw [if_pos rfl, emid m d hm hd, hg, e2]
  simp only [num4 _ _ _ hn]
theorem decr_grp1 (op m d imm : Int) (r : List Int) (hg : grpOp 193 m = (op, 1)) (ho : op ≠ 0) (hm : 0 ≤ m ∧ m ≤ 7) (hd : Reg d) (hn : 1 ≤ imm ∧ imm ≤ 63) :
    anyR ([rexI 0 0 d, 193, bothI m d] ++ [imm] ++ r) false = (⟨op, d, 0, 0, 0, 0, 0, 0, imm⟩, r, false) := by
  show anyR (rexI 0 0 d :: 193 :: bothI m d :: imm :: r) false = _
  rw [anyR_rex _ _ _ (rexI_b 0 0 d)]
  show wideRB (rexI 0 0 d) 193 (bothI m d :: imm :: r, false) = _
  obtain ⟨e1, e2⟩ := both_mid m d hm hd
  unfold wideRB
  rw [if_neg (by decide), if_neg (by decide), if_neg (by decide), if_neg (by decide), if_neg (by decide), if_neg (by decide), nx_cons]
  unfold grpR
  rw [if_neg (by omega), emid m d hm hd, hg, if_neg ho]
  unfold grpC
  rw [if_neg (by simp), e2]
  simp only [num1u _ _ _ hn]
theorem decr_chain (op c d s : Int) (r : List Int) (hc : c = 102 ∧ op = 20 ∨ c = 243 ∧ op = 21) (hd : Reg d) (hs : Reg s) :
    anyR ([c, rexI d 0 s, 15, 56, 246, bothI d s] ++ r) false = (⟨op, d, s, 0, 0, 0, 0, 0, 0⟩, r, false) := by
  obtain ⟨e1, e2⟩ := mid_both d 0 s hd hs (.inl hiR_z)
  show anyR (c :: rexI d 0 s :: 15 :: 56 :: 246 :: bothI d s :: r) false = _
  rcases hc with ⟨rfl, rfl⟩ | ⟨rfl, rfl⟩
  · rw [anyR, if_neg (by decide), if_neg (by decide), if_neg (by decide), if_neg (by decide), if_neg (by decide), if_neg (by decide), if_neg (by decide), if_pos rfl]
    simp only [chainD, nx_cons]; rw [e1, e2]
  · rw [anyR, if_neg (by decide), if_neg (by decide), if_neg (by decide), if_neg (by decide), if_neg (by decide), if_neg (by decide), if_neg (by decide), if_neg (by decide), if_pos rfl]
    simp only [chainD, nx_cons]; rw [e1, e2]
theorem decr_mulx (d s t : Int) (r : List Int) (hd : Reg d) (hs : Reg s) (ht : Reg t) :
    anyR ([196, mulx1 d t, mulx2 s, 246, bothI d t] ++ r) false = (⟨19, d, s, t, 0, 0, 0, 0, 0⟩, r, false) := by
  have l1 := loR_b d; have l2 := loR_b t
  have h1 := hiR_b d; have h2 := hiR_b t
  have r1 := reg_split hd; have r2 := reg_split ht
  unfold Reg at hs
  show anyR (196 :: mulx1 d t :: mulx2 s :: 246 :: bothI d t :: r) false = _
  rw [anyR, if_neg (by decide), if_neg (by decide), if_neg (by decide), if_neg (by decide), if_neg (by decide), if_neg (by decide), if_pos rfl]
  simp only [nx_cons, mulD]
  have a1 : mulx1 d t / 128 = 1 - hiR d := by unfold mulx1; omega
  have a2 : mulx1 d t / 32 % 2 = 1 - hiR t := by unfold mulx1; omega
  rw [a1, a2]
  have e1 : midD ((1 - (1 - hiR d)) * 4 + (1 - (1 - hiR t))) (bothI d t) = d := by unfold midD bothI; omega
  have e2 : lastD ((1 - (1 - hiR d)) * 4 + (1 - (1 - hiR t))) (bothI d t) = t := by unfold lastD bothI; omega
  have e3 : 15 - mulx2 s / 8 % 16 = s := by unfold mulx2; omega
  rw [e1, e2, e3]
theorem decr_push (s : Int) (r : List Int) (hs : Reg s) : anyR (stackL 80 s ++ r) false = (⟨28, 0, s, 0, 0, 0, 0, 0, 0⟩, r, false) := by
  have l := loR_b s
  have rs := reg_split hs
  unfold stackL
  rcases hiR_01 s with h | h
  · rw [if_neg (by omega)]
    show anyR ((80 + loR s) :: r) false = _
    rw [anyR, if_neg (by omega), if_pos (by omega), show (80 + loR s) % 8 = loR s by omega, show loR s = s by omega]
  · rw [if_pos h]
    show anyR (65 :: (80 + loR s) :: r) false = _
    rw [anyR, if_neg (by decide), if_neg (by decide), if_neg (by decide), if_pos rfl, nx_cons, if_pos (by omega), show (80 + loR s) % 8 + 8 = s by omega]
theorem decr_pop (d : Int) (r : List Int) (hd : Reg d) : anyR (stackL 88 d ++ r) false = (⟨29, d, 0, 0, 0, 0, 0, 0, 0⟩, r, false) := by
  have l := loR_b d
  have rs := reg_split hd
  unfold stackL
  rcases hiR_01 d with h | h
  · rw [if_neg (by omega)]
    show anyR ((88 + loR d) :: r) false = _
    rw [anyR, if_neg (by omega), if_neg (by omega), if_pos (by omega), show (88 + loR d) % 8 = loR d by omega, show loR d = d by omega]
  · rw [if_pos h]
    show anyR (65 :: (88 + loR d) :: r) false = _
    rw [anyR, if_neg (by decide), if_neg (by decide), if_neg (by decide), if_pos rfl, nx_cons, if_neg (by omega), show (88 + loR d) % 8 + 8 = d by omega]
theorem decr_jmp (imm : Int) (r : List Int) (hn : -2147483648 ≤ imm ∧ imm ≤ 2147483647) : anyR (jumpL 233 0 imm ++ r) false = (⟨30, 0, 0, 0, 0, 0, 0, 0, imm⟩, r, false) := by
  show anyR (233 :: (littleL imm 4 ++ r)) false = _
  rw [anyR, if_neg (by decide), if_neg (by decide), if_neg (by decide), if_neg (by decide), if_pos rfl, num4 _ _ _ hn]
theorem decr_jcc (op m imm : Int) (r : List Int) (hc : m = 133 ∧ op = 31 ∨ m = 130 ∧ op = 32) (hn : -2147483648 ≤ imm ∧ imm ≤ 2147483647) : anyR (jumpL 15 m imm ++ r) false = (⟨op, 0, 0, 0, 0, 0, 0, 0, imm⟩, r, false) := by
  have e : jumpL 15 m imm ++ r = 15 :: m :: (littleL imm 4 ++ r) := by rcases hc with ⟨rfl, _⟩ | ⟨rfl, _⟩ <;> rfl
  rw [e, anyR, if_neg (by decide), if_neg (by decide), if_neg (by decide), if_neg (by decide), if_neg (by decide), if_pos rfl]
  simp only [nx_cons]
  rw [num4 _ _ _ hn]
  rcases hc with ⟨rfl, rfl⟩ | ⟨rfl, rfl⟩ <;> rfl
theorem decr_ret (r : List Int) : anyR ([195] ++ r) false = (⟨33, 0, 0, 0, 0, 0, 0, 0, 0⟩, r, false) := by
  show anyR (195 :: r) false = _
  rw [anyR, if_pos rfl]
theorem decr_1 (d s t mb mi ms md imm : Int) (r : List Int) (_hi : -9223372036854775808 ≤ imm ∧ imm ≤ 9223372036854775807) (h : chk 1 d s t mb mi ms md imm = true) : anyR (encL 1 d s t mb mi ms md imm ++ r) false = (⟨1, d, s, t, mb, mi, ms, md, imm⟩, r, false) := by
  rw [chk_1] at h
  obtain ⟨rfl, hd, hs, rfl, ⟨rfl, rfl, rfl, rfl⟩⟩ := h
  exact decr_mov d s r hd hs
theorem decr_2 (d s t mb mi ms md imm : Int) (r : List Int) (hi : -9223372036854775808 ≤ imm ∧ imm ≤ 9223372036854775807) (h : chk 2 d s t mb mi ms md imm = true) : anyR (encL 2 d s t mb mi ms md imm ++ r) false = (⟨2, d, s, t, mb, mi, ms, md, imm⟩, r, false) := by
  rw [chk_2] at h
  obtain ⟨_, hd, rfl, rfl, ⟨rfl, rfl, rfl, rfl⟩⟩ := h
  exact decr_wide d imm r hd hi
theorem decr_3 (d s t mb mi ms md imm : Int) (r : List Int) (_hi : -9223372036854775808 ≤ imm ∧ imm ≤ 9223372036854775807) (h : chk 3 d s t mb mi ms md imm = true) : anyR (encL 3 d s t mb mi ms md imm ++ r) false = (⟨3, d, s, t, mb, mi, ms, md, imm⟩, r, false) := by
  rw [chk_3] at h
  obtain ⟨rfl, hd, rfl, rfl, hp⟩ := h
  exact decr_load 3 139 d mb mi ms md r (by decide) hd hp
theorem decr_4 (d s t mb mi ms md imm : Int) (r : List Int) (_hi : -9223372036854775808 ≤ imm ∧ imm ≤ 9223372036854775807) (h : chk 4 d s t mb mi ms md imm = true) : anyR (encL 4 d s t mb mi ms md imm ++ r) false = (⟨4, d, s, t, mb, mi, ms, md, imm⟩, r, false) := by
  rw [chk_4] at h
  obtain ⟨rfl, rfl, hs, rfl, hp⟩ := h
  exact decr_store s mb mi ms md r hs hp
theorem decr_5 (d s t mb mi ms md imm : Int) (r : List Int) (_hi : -9223372036854775808 ≤ imm ∧ imm ≤ 9223372036854775807) (h : chk 5 d s t mb mi ms md imm = true) : anyR (encL 5 d s t mb mi ms md imm ++ r) false = (⟨5, d, s, t, mb, mi, ms, md, imm⟩, r, false) := by
  rw [chk_5] at h
  obtain ⟨rfl, hd, rfl, rfl, hp⟩ := h
  exact decr_load 5 141 d mb mi ms md r (by decide) hd hp
theorem decr_6 (d s t mb mi ms md imm : Int) (r : List Int) (_hi : -9223372036854775808 ≤ imm ∧ imm ≤ 9223372036854775807) (h : chk 6 d s t mb mi ms md imm = true) : anyR (encL 6 d s t mb mi ms md imm ++ r) false = (⟨6, d, s, t, mb, mi, ms, md, imm⟩, r, false) := by
  rw [chk_6] at h
  obtain ⟨rfl, hd, hs, rfl, ⟨rfl, rfl, rfl, rfl⟩⟩ := h
  exact decr_pair 6 1 d s r rfl (by decide) hd hs
theorem decr_7 (d s t mb mi ms md imm : Int) (r : List Int) (_hi : -9223372036854775808 ≤ imm ∧ imm ≤ 9223372036854775807) (h : chk 7 d s t mb mi ms md imm = true) : anyR (encL 7 d s t mb mi ms md imm ++ r) false = (⟨7, d, s, t, mb, mi, ms, md, imm⟩, r, false) := by
  rw [chk_7] at h
  obtain ⟨rfl, hd, hs, rfl, ⟨rfl, rfl, rfl, rfl⟩⟩ := h
  exact decr_pair 7 17 d s r rfl (by decide) hd hs
theorem decr_8 (d s t mb mi ms md imm : Int) (r : List Int) (_hi : -9223372036854775808 ≤ imm ∧ imm ≤ 9223372036854775807) (h : chk 8 d s t mb mi ms md imm = true) : anyR (encL 8 d s t mb mi ms md imm ++ r) false = (⟨8, d, s, t, mb, mi, ms, md, imm⟩, r, false) := by
  rw [chk_8] at h
  obtain ⟨rfl, hd, hs, rfl, ⟨rfl, rfl, rfl, rfl⟩⟩ := h
  exact decr_pair 8 41 d s r rfl (by decide) hd hs
theorem decr_9 (d s t mb mi ms md imm : Int) (r : List Int) (_hi : -9223372036854775808 ≤ imm ∧ imm ≤ 9223372036854775807) (h : chk 9 d s t mb mi ms md imm = true) : anyR (encL 9 d s t mb mi ms md imm ++ r) false = (⟨9, d, s, t, mb, mi, ms, md, imm⟩, r, false) := by
  rw [chk_9] at h
  obtain ⟨rfl, hd, hs, rfl, ⟨rfl, rfl, rfl, rfl⟩⟩ := h
  exact decr_pair 9 25 d s r rfl (by decide) hd hs
theorem decr_10 (d s t mb mi ms md imm : Int) (r : List Int) (_hi : -9223372036854775808 ≤ imm ∧ imm ≤ 9223372036854775807) (h : chk 10 d s t mb mi ms md imm = true) : anyR (encL 10 d s t mb mi ms md imm ++ r) false = (⟨10, d, s, t, mb, mi, ms, md, imm⟩, r, false) := by
  rw [chk_10] at h
  obtain ⟨rfl, hd, hs, rfl, ⟨rfl, rfl, rfl, rfl⟩⟩ := h
  exact decr_pair 10 33 d s r rfl (by decide) hd hs
theorem decr_11 (d s t mb mi ms md imm : Int) (r : List Int) (_hi : -9223372036854775808 ≤ imm ∧ imm ≤ 9223372036854775807) (h : chk 11 d s t mb mi ms md imm = true) : anyR (encL 11 d s t mb mi ms md imm ++ r) false = (⟨11, d, s, t, mb, mi, ms, md, imm⟩, r, false) := by
  rw [chk_11] at h
  obtain ⟨rfl, hd, hs, rfl, ⟨rfl, rfl, rfl, rfl⟩⟩ := h
  exact decr_pair 11 9 d s r rfl (by decide) hd hs
theorem decr_12 (d s t mb mi ms md imm : Int) (r : List Int) (_hi : -9223372036854775808 ≤ imm ∧ imm ≤ 9223372036854775807) (h : chk 12 d s t mb mi ms md imm = true) : anyR (encL 12 d s t mb mi ms md imm ++ r) false = (⟨12, d, s, t, mb, mi, ms, md, imm⟩, r, false) := by
  rw [chk_12] at h
  obtain ⟨rfl, hd, hs, rfl, ⟨rfl, rfl, rfl, rfl⟩⟩ := h
  exact decr_pair 12 49 d s r rfl (by decide) hd hs
theorem decr_13 (d s t mb mi ms md imm : Int) (r : List Int) (_hi : -9223372036854775808 ≤ imm ∧ imm ≤ 9223372036854775807) (h : chk 13 d s t mb mi ms md imm = true) : anyR (encL 13 d s t mb mi ms md imm ++ r) false = (⟨13, d, s, t, mb, mi, ms, md, imm⟩, r, false) := by
  rw [chk_13] at h
  obtain ⟨rfl, hd, hs, rfl, ⟨rfl, rfl, rfl, rfl⟩⟩ := h
  exact decr_pair 13 57 d s r rfl (by decide) hd hs
theorem decr_14 (d s t mb mi ms md imm : Int) (r : List Int) (_hi : -9223372036854775808 ≤ imm ∧ imm ≤ 9223372036854775807) (h : chk 14 d s t mb mi ms md imm = true) : anyR (encL 14 d s t mb mi ms md imm ++ r) false = (⟨14, d, s, t, mb, mi, ms, md, imm⟩, r, false) := by
  rw [chk_14] at h
  obtain ⟨rfl, hd, hs, rfl, ⟨rfl, rfl, rfl, rfl⟩⟩ := h
  exact decr_pair 14 133 d s r rfl (by decide) hd hs
theorem decr_15 (d s t mb mi ms md imm : Int) (r : List Int) (_hi : -9223372036854775808 ≤ imm ∧ imm ≤ 9223372036854775807) (h : chk 15 d s t mb mi ms md imm = true) : anyR (encL 15 d s t mb mi ms md imm ++ r) false = (⟨15, d, s, t, mb, mi, ms, md, imm⟩, r, false) := by
  rw [chk_15] at h
  obtain ⟨hi, hd, rfl, rfl, ⟨rfl, rfl, rfl, rfl⟩⟩ := h
  exact decr_grp4 15 0 d imm r rfl (by decide) hd hi
theorem decr_16 (d s t mb mi ms md imm : Int) (r : List Int) (_hi : -9223372036854775808 ≤ imm ∧ imm ≤ 9223372036854775807) (h : chk 16 d s t mb mi ms md imm = true) : anyR (encL 16 d s t mb mi ms md imm ++ r) false = (⟨16, d, s, t, mb, mi, ms, md, imm⟩, r, false) := by
  rw [chk_16] at h
  obtain ⟨hi, hd, rfl, rfl, ⟨rfl, rfl, rfl, rfl⟩⟩ := h
  exact decr_grp4 16 4 d imm r rfl (by decide) hd hi
theorem decr_17 (d s t mb mi ms md imm : Int) (r : List Int) (_hi : -9223372036854775808 ≤ imm ∧ imm ≤ 9223372036854775807) (h : chk 17 d s t mb mi ms md imm = true) : anyR (encL 17 d s t mb mi ms md imm ++ r) false = (⟨17, d, s, t, mb, mi, ms, md, imm⟩, r, false) := by
  rw [chk_17] at h
  obtain ⟨hi, hd, rfl, rfl, ⟨rfl, rfl, rfl, rfl⟩⟩ := h
  exact decr_grp4 17 5 d imm r rfl (by decide) hd hi
theorem decr_18 (d s t mb mi ms md imm : Int) (r : List Int) (_hi : -9223372036854775808 ≤ imm ∧ imm ≤ 9223372036854775807) (h : chk 18 d s t mb mi ms md imm = true) : anyR (encL 18 d s t mb mi ms md imm ++ r) false = (⟨18, d, s, t, mb, mi, ms, md, imm⟩, r, false) := by
  rw [chk_18] at h
  obtain ⟨hi, hd, rfl, rfl, ⟨rfl, rfl, rfl, rfl⟩⟩ := h
  exact decr_grp4 18 7 d imm r rfl (by decide) hd hi
theorem decr_19 (d s t mb mi ms md imm : Int) (r : List Int) (_hi : -9223372036854775808 ≤ imm ∧ imm ≤ 9223372036854775807) (h : chk 19 d s t mb mi ms md imm = true) : anyR (encL 19 d s t mb mi ms md imm ++ r) false = (⟨19, d, s, t, mb, mi, ms, md, imm⟩, r, false) := by
  rw [chk_19] at h
  obtain ⟨rfl, hd, hs, ht, ⟨rfl, rfl, rfl, rfl⟩, _⟩ := h
  exact decr_mulx d s t r hd hs ht
theorem decr_20 (d s t mb mi ms md imm : Int) (r : List Int) (_hi : -9223372036854775808 ≤ imm ∧ imm ≤ 9223372036854775807) (h : chk 20 d s t mb mi ms md imm = true) : anyR (encL 20 d s t mb mi ms md imm ++ r) false = (⟨20, d, s, t, mb, mi, ms, md, imm⟩, r, false) := by
  rw [chk_20] at h
  obtain ⟨rfl, hd, hs, rfl, ⟨rfl, rfl, rfl, rfl⟩⟩ := h
  exact decr_chain 20 102 d s r (by decide) hd hs
theorem decr_21 (d s t mb mi ms md imm : Int) (r : List Int) (_hi : -9223372036854775808 ≤ imm ∧ imm ≤ 9223372036854775807) (h : chk 21 d s t mb mi ms md imm = true) : anyR (encL 21 d s t mb mi ms md imm ++ r) false = (⟨21, d, s, t, mb, mi, ms, md, imm⟩, r, false) := by
  rw [chk_21] at h
  obtain ⟨rfl, hd, hs, rfl, ⟨rfl, rfl, rfl, rfl⟩⟩ := h
  exact decr_chain 21 243 d s r (by decide) hd hs
theorem decr_22 (d s t mb mi ms md imm : Int) (r : List Int) (_hi : -9223372036854775808 ≤ imm ∧ imm ≤ 9223372036854775807) (h : chk 22 d s t mb mi ms md imm = true) : anyR (encL 22 d s t mb mi ms md imm ++ r) false = (⟨22, d, s, t, mb, mi, ms, md, imm⟩, r, false) := by
  rw [chk_22] at h
  obtain ⟨rfl, hd, rfl, rfl, ⟨rfl, rfl, rfl, rfl⟩⟩ := h
  exact decr_grp0 22 247 3 d r rfl rfl rfl (by decide) (by decide) hd
theorem decr_23 (d s t mb mi ms md imm : Int) (r : List Int) (_hi : -9223372036854775808 ≤ imm ∧ imm ≤ 9223372036854775807) (h : chk 23 d s t mb mi ms md imm = true) : anyR (encL 23 d s t mb mi ms md imm ++ r) false = (⟨23, d, s, t, mb, mi, ms, md, imm⟩, r, false) := by
  rw [chk_23] at h
  obtain ⟨rfl, hd, rfl, rfl, ⟨rfl, rfl, rfl, rfl⟩⟩ := h
  exact decr_grp0 23 247 2 d r rfl rfl rfl (by decide) (by decide) hd
theorem decr_24 (d s t mb mi ms md imm : Int) (r : List Int) (_hi : -9223372036854775808 ≤ imm ∧ imm ≤ 9223372036854775807) (h : chk 24 d s t mb mi ms md imm = true) : anyR (encL 24 d s t mb mi ms md imm ++ r) false = (⟨24, d, s, t, mb, mi, ms, md, imm⟩, r, false) := by
  rw [chk_24] at h
  obtain ⟨hi, hd, rfl, rfl, ⟨rfl, rfl, rfl, rfl⟩⟩ := h
  exact decr_grp1 24 4 d imm r rfl (by decide) (by decide) hd hi
theorem decr_25 (d s t mb mi ms md imm : Int) (r : List Int) (_hi : -9223372036854775808 ≤ imm ∧ imm ≤ 9223372036854775807) (h : chk 25 d s t mb mi ms md imm = true) : anyR (encL 25 d s t mb mi ms md imm ++ r) false = (⟨25, d, s, t, mb, mi, ms, md, imm⟩, r, false) := by
  rw [chk_25] at h
  obtain ⟨hi, hd, rfl, rfl, ⟨rfl, rfl, rfl, rfl⟩⟩ := h
  exact decr_grp1 25 5 d imm r rfl (by decide) (by decide) hd hi
theorem decr_26 (d s t mb mi ms md imm : Int) (r : List Int) (_hi : -9223372036854775808 ≤ imm ∧ imm ≤ 9223372036854775807) (h : chk 26 d s t mb mi ms md imm = true) : anyR (encL 26 d s t mb mi ms md imm ++ r) false = (⟨26, d, s, t, mb, mi, ms, md, imm⟩, r, false) := by
  rw [chk_26] at h
  obtain ⟨rfl, hd, hs, rfl, ⟨rfl, rfl, rfl, rfl⟩⟩ := h
  exact decr_move 26 66 d s r (by decide) hd hs
theorem decr_27 (d s t mb mi ms md imm : Int) (r : List Int) (_hi : -9223372036854775808 ≤ imm ∧ imm ≤ 9223372036854775807) (h : chk 27 d s t mb mi ms md imm = true) : anyR (encL 27 d s t mb mi ms md imm ++ r) false = (⟨27, d, s, t, mb, mi, ms, md, imm⟩, r, false) := by
  rw [chk_27] at h
  obtain ⟨rfl, hd, hs, rfl, ⟨rfl, rfl, rfl, rfl⟩⟩ := h
  exact decr_move 27 69 d s r (by decide) hd hs
theorem decr_28 (d s t mb mi ms md imm : Int) (r : List Int) (_hi : -9223372036854775808 ≤ imm ∧ imm ≤ 9223372036854775807) (h : chk 28 d s t mb mi ms md imm = true) : anyR (encL 28 d s t mb mi ms md imm ++ r) false = (⟨28, d, s, t, mb, mi, ms, md, imm⟩, r, false) := by
  rw [chk_28] at h
  obtain ⟨rfl, rfl, hs, rfl, ⟨rfl, rfl, rfl, rfl⟩⟩ := h
  exact decr_push s r hs
theorem decr_29 (d s t mb mi ms md imm : Int) (r : List Int) (_hi : -9223372036854775808 ≤ imm ∧ imm ≤ 9223372036854775807) (h : chk 29 d s t mb mi ms md imm = true) : anyR (encL 29 d s t mb mi ms md imm ++ r) false = (⟨29, d, s, t, mb, mi, ms, md, imm⟩, r, false) := by
  rw [chk_29] at h
  obtain ⟨rfl, hd, rfl, rfl, ⟨rfl, rfl, rfl, rfl⟩⟩ := h
  exact decr_pop d r hd
theorem decr_30 (d s t mb mi ms md imm : Int) (r : List Int) (_hi : -9223372036854775808 ≤ imm ∧ imm ≤ 9223372036854775807) (h : chk 30 d s t mb mi ms md imm = true) : anyR (encL 30 d s t mb mi ms md imm ++ r) false = (⟨30, d, s, t, mb, mi, ms, md, imm⟩, r, false) := by
  rw [chk_30] at h
  obtain ⟨hi, rfl, rfl, rfl, ⟨rfl, rfl, rfl, rfl⟩⟩ := h
  exact decr_jmp imm r hi
theorem decr_31 (d s t mb mi ms md imm : Int) (r : List Int) (_hi : -9223372036854775808 ≤ imm ∧ imm ≤ 9223372036854775807) (h : chk 31 d s t mb mi ms md imm = true) : anyR (encL 31 d s t mb mi ms md imm ++ r) false = (⟨31, d, s, t, mb, mi, ms, md, imm⟩, r, false) := by
  rw [chk_31] at h
  obtain ⟨hi, rfl, rfl, rfl, ⟨rfl, rfl, rfl, rfl⟩⟩ := h
  exact decr_jcc 31 133 imm r (by decide) hi
theorem decr_32 (d s t mb mi ms md imm : Int) (r : List Int) (_hi : -9223372036854775808 ≤ imm ∧ imm ≤ 9223372036854775807) (h : chk 32 d s t mb mi ms md imm = true) : anyR (encL 32 d s t mb mi ms md imm ++ r) false = (⟨32, d, s, t, mb, mi, ms, md, imm⟩, r, false) := by
  rw [chk_32] at h
  obtain ⟨hi, rfl, rfl, rfl, ⟨rfl, rfl, rfl, rfl⟩⟩ := h
  exact decr_jcc 32 130 imm r (by decide) hi
theorem decr_33 (d s t mb mi ms md imm : Int) (r : List Int) (_hi : -9223372036854775808 ≤ imm ∧ imm ≤ 9223372036854775807) (h : chk 33 d s t mb mi ms md imm = true) : anyR (encL 33 d s t mb mi ms md imm ++ r) false = (⟨33, d, s, t, mb, mi, ms, md, imm⟩, r, false) := by
  rw [chk_33] at h
  obtain ⟨rfl, rfl, rfl, rfl, ⟨rfl, rfl, rfl, rfl⟩⟩ := h
  exact decr_ret r
theorem decr_any (x : Ins) (r : List Int) (h : x.chk = true) (hi : -9223372036854775808 ≤ x.imm ∧ x.imm ≤ 9223372036854775807) : anyR (x.enc ++ r) false = (x, r, false) := by
  obtain ⟨op, d, s, t, mb, mi, ms, md, imm⟩ := x
  have hr : 1 ≤ op ∧ op ≤ 33 := chk_range h
  have : op = 1 ∨ op = 2 ∨ op = 3 ∨ op = 4 ∨ op = 5 ∨ op = 6 ∨ op = 7 ∨ op = 8 ∨ op = 9 ∨ op = 10 ∨ op = 11 ∨ op = 12 ∨ op = 13 ∨ op = 14 ∨ op = 15 ∨ op = 16 ∨ op = 17 ∨ op = 18 ∨ op = 19 ∨ op = 20 ∨ op = 21 ∨ op = 22 ∨ op = 23 ∨ op = 24 ∨ op = 25 ∨ op = 26 ∨ op = 27 ∨ op = 28 ∨ op = 29 ∨ op = 30 ∨ op = 31 ∨ op = 32 ∨ op = 33 := by omega
  rcases this with rfl | rfl | rfl | rfl | rfl | rfl | rfl | rfl | rfl | rfl | rfl | rfl | rfl | rfl | rfl | rfl | rfl | rfl | rfl | rfl | rfl | rfl | rfl | rfl | rfl | rfl | rfl | rfl | rfl | rfl | rfl | rfl | rfl
  · exact decr_1 d s t mb mi ms md imm r hi h
  · exact decr_2 d s t mb mi ms md imm r hi h
  · exact decr_3 d s t mb mi ms md imm r hi h
  · exact decr_4 d s t mb mi ms md imm r hi h
  · exact decr_5 d s t mb mi ms md imm r hi h
  · exact decr_6 d s t mb mi ms md imm r hi h
  · exact decr_7 d s t mb mi ms md imm r hi h
  · exact decr_8 d s t mb mi ms md imm r hi h
  · exact decr_9 d s t mb mi ms md imm r hi h
  · exact decr_10 d s t mb mi ms md imm r hi h
  · exact decr_11 d s t mb mi ms md imm r hi h
  · exact decr_12 d s t mb mi ms md imm r hi h
  · exact decr_13 d s t mb mi ms md imm r hi h
  · exact decr_14 d s t mb mi ms md imm r hi h
  · exact decr_15 d s t mb mi ms md imm r hi h
  · exact decr_16 d s t mb mi ms md imm r hi h
  · exact decr_17 d s t mb mi ms md imm r hi h
  · exact decr_18 d s t mb mi ms md imm r hi h
  · exact decr_19 d s t mb mi ms md imm r hi h
  · exact decr_20 d s t mb mi ms md imm r hi h
  · exact decr_21 d s t mb mi ms md imm r hi h
  · exact decr_22 d s t mb mi ms md imm r hi h
  · exact decr_23 d s t mb mi ms md imm r hi h
  · exact decr_24 d s t mb mi ms md imm r hi h
  · exact decr_25 d s t mb mi ms md imm r hi h
  · exact decr_26 d s t mb mi ms md imm r hi h
  · exact decr_27 d s t mb mi ms md imm r hi h
  · exact decr_28 d s t mb mi ms md imm r hi h
  · exact decr_29 d s t mb mi ms md imm r hi h
  · exact decr_30 d s t mb mi ms md imm r hi h
  · exact decr_31 d s t mb mi ms md imm r hi h
  · exact decr_32 d s t mb mi ms md imm r hi h
  · exact decr_33 d s t mb mi ms md imm r hi h
def usedR (l : List Int) : Nat := l.length - (anyR l false).2.1.length
def goodR (l : List Int) : Bool := !(anyR l false).2.2 && (anyR l false).1.chk && decide ((anyR l false).1.enc = l.take (usedR l)) && decide (usedR l ≤ l.length)
def rdR7 (l : List Int) : Ins × Nat × Int := if goodR l then ((anyR l false).1, usedR l, 0) else (zeroI, 0, 4)
theorem rdR7_eq (l : List Int) (hok : (anyR l false).1.ok) (hb : ∀ x ∈ l, Byte x) : rdR7 l = rdD l := by
  unfold rdR7
  cases hg : goodR l with
  | true =>
    unfold goodR at hg
    simp only [Bool.and_eq_true, Bool.not_eq_true', decide_eq_true_eq] at hg
    obtain ⟨⟨⟨h1, h2⟩, h3⟩, h4⟩ := hg
    have e : l = (anyR l false).1.enc ++ l.drop (usedR l) := by rw [h3, List.take_append_drop]
    have hl : (anyR l false).1.enc.length = usedR l := by rw [h3, List.length_take]; omega
    have := rd_hit (anyR l false).1 (l.drop (usedR l)) h2 hok
    rw [← e, hl] at this
    rw [this]; rfl
  | false =>
    unfold rdD
    cases hd : goodD l with
    | false => rfl
    | true =>
      exfalso
      have hd0 := hd
      unfold goodD at hd
      simp only [Bool.and_eq_true, Bool.not_eq_true', decide_eq_true_eq] at hd
      obtain ⟨⟨h1, h2⟩, h3⟩ := hd
      have hi : (winD l).1.ok := any_ok _ (fun x hx => hb x (List.mem_of_mem_take hx)) false
      have e : l = (winD l).1.enc ++ l.drop (winD l).1.enc.length := by
        have h5 : (winD l).1.enc <+: l := by rw [h3]; exact (List.take_prefix _ _).trans (List.take_prefix _ _)
        exact (List.prefix_iff_eq_append.1 h5).symm
      have h6 := decr_any (winD l).1 (l.drop (winD l).1.enc.length) h2 hi.2
      rw [← e] at h6
      have h7 : usedR l = (winD l).1.enc.length := by
        unfold usedR
        rw [h6]
        have := congrArg List.length e
        rw [List.length_append] at this
        show l.length - (l.drop (winD l).1.enc.length).length = _
        omega
      have : goodR l = true := by
        unfold goodR
        rw [h6, h7]
        simp only [Bool.not_false, Bool.true_and, Bool.and_eq_true, decide_eq_true_eq]
        refine ⟨⟨h2, ?_⟩, ?_⟩
        · have h8 : (winD l).1.enc <+: l := ⟨_, e.symm⟩
          exact (List.prefix_iff_eq_take.1 h8)
        · have := congrArg List.length e
          rw [List.length_append] at this
          omega
      rw [this] at hg; cases hg
end Go.Proofs.Ytbcaelhchmoigaa
