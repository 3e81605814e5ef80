/- The plain decoder reads what is put: operation by operation; so no instruction's bytes begin another one's. No program in sight. -/
import Derived.Test.YtakmpnmmcjnecaaDec
namespace Go.Proofs.Ytakmpnmmcjnecaa

theorem both_64 (a b : Int) : bothI a b / 64 = 3 := by have := bothI_b a b; omega
theorem dec_pair (op c d s : Int) (r : List Int) (hp : pairOp c = op) (ho : op ≠ 0) (hd : Reg d) (hs : Reg s) :
    anyD ([rexI s 0 d, c, bothI s d] ++ r) false = (⟨op, d, s, 0, 0, 0, 0, 0, 0⟩, r, false) := by
  show anyD (rexI s 0 d :: c :: bothI s d :: r) false = _
  rw [anyD_rex _ _ _ (rexI_b s 0 d)]
  show wideB (rexI s 0 d) c (bothI s d :: r, false) = _
  obtain ⟨e1, e2⟩ := mid_both s 0 d hs hd (.inl hiR_z)
  unfold wideB
  rw [if_pos (show pairOp c ≠ 0 by rw [hp]; exact ho), hp, nx_cons]
  unfold pairB
  rw [e1, e2]
theorem dec_mov (d s : Int) (r : List Int) (hd : Reg d) (hs : Reg s) :
    anyD ([rexI s 0 d, 137, bothI s d] ++ r) false = (⟨1, d, s, 0, 0, 0, 0, 0, 0⟩, r, false) := by
  show anyD (rexI s 0 d :: 137 :: bothI s d :: r) false = _
  rw [anyD_rex _ _ _ (rexI_b s 0 d)]
  show wideB (rexI s 0 d) 137 (bothI s d :: r, false) = _
  obtain ⟨e1, e2⟩ := mid_both s 0 d hs hd (.inl hiR_z)
  unfold wideB
  rw [if_neg (by decide), if_neg (by decide), if_neg (by decide), if_pos rfl, nx_cons]
  unfold storeB pairB
  rw [if_pos (both_64 s d), e1, e2]
theorem dec_wide (d imm : Int) (r : List Int) (hd : Reg d) (hn : -9223372036854775808 ≤ imm ∧ imm ≤ 9223372036854775807) :
    anyD ([rexI 0 0 d, 184 + loR d] ++ littleL imm 8 ++ r) false = (⟨2, d, 0, 0, 0, 0, 0, 0, imm⟩, r, false) := by
  show anyD (rexI 0 0 d :: (184 + loR d) :: (littleL imm 8 ++ r)) false = _
  rw [anyD_rex _ _ _ (rexI_b 0 0 d)]
  have l := loR_b d
  have rs := reg_split hd
  obtain ⟨p1, p2, p3⟩ := rex_parts 0 0 d
  have hp : pairOp (184 + loR d) = 0 := by unfold pairOp; repeat rw [if_neg (by omega)]
  show wideB (rexI 0 0 d) (184 + loR d) (littleL imm 8 ++ r, false) = _
  unfold wideB
  rw [if_neg (show ¬ pairOp (184 + loR d) ≠ 0 by rw [hp]; decide), if_neg (by omega), if_neg (by omega), if_neg (by omega), if_pos (by omega)]
  unfold immB
  rw [num8 _ _ _ hn]
  have hl : lastD (rexI 0 0 d) (184 + loR d) = d := by unfold lastD; rw [p3]; omega
  rw [hl]
theorem dec_load (op c d mb mi ms md : Int) (r : List Int) (hc : c = 139 ∧ op = 3 ∨ c = 141 ∧ op = 5) (hd : Reg d) (hp : plc mb mi ms md = true) :
    anyD ([rexI d mi mb, c] ++ placeL d mb mi ms md ++ r) false = (⟨op, d, 0, 0, mb, mi, ms, md, 0⟩, r, false) := by
  obtain ⟨rm, l, e, h0, h1, h2⟩ := place_dec d mb mi ms md hd hp r false
  show anyD (rexI d mi mb :: c :: (placeL d mb mi ms md ++ r)) false = _
  rw [anyD_rex _ _ _ (rexI_b d mi mb), e]
  show wideB (rexI d mi mb) c (rm :: l, false) = _
  unfold wideB
  rcases hc with ⟨rfl, rfl⟩ | ⟨rfl, rfl⟩
  · rw [if_neg (by decide), if_pos rfl, nx_cons, h2]; rfl
  · rw [if_neg (by decide), if_neg (by decide), if_pos rfl, nx_cons, h2]; rfl
theorem dec_store (s mb mi ms md : Int) (r : List Int) (hs : Reg s) (hp : plc mb mi ms md = true) :
    anyD ([rexI s mi mb, 137] ++ placeL s mb mi ms md ++ r) false = (⟨4, 0, s, 0, mb, mi, ms, md, 0⟩, r, false) := by
  obtain ⟨rm, l, e, h0, h1, h2⟩ := place_dec s mb mi ms md hs hp r false
  show anyD (rexI s mi mb :: 137 :: (placeL s mb mi ms md ++ r)) false = _
  rw [anyD_rex _ _ _ (rexI_b s mi mb), e]
  show wideB (rexI s mi mb) 137 (rm :: l, false) = _
  unfold wideB
  rw [if_neg (by decide), if_neg (by decide), if_neg (by decide), if_pos rfl, nx_cons]
  unfold storeB
  rw [if_neg (by omega), h2]; rfl
theorem dec_move (op m d s : Int) (r : List Int) (hc : m = 66 ∧ op = 26 ∨ m = 69 ∧ op = 27) (hd : Reg d) (hs : Reg s) :
    anyD ([rexI d 0 s, 15, m, bothI d s] ++ r) false = (⟨op, d, s, 0, 0, 0, 0, 0, 0⟩, r, false) := by
  show anyD (rexI d 0 s :: 15 :: m :: bothI d s :: r) false = _
  rw [anyD_rex _ _ _ (rexI_b d 0 s)]
  show wideB (rexI d 0 s) 15 (m :: bothI d s :: r, false) = _
  obtain ⟨e1, e2⟩ := mid_both d 0 s hd hs (.inl hiR_z)
  unfold wideB
  rw [if_neg (by decide), if_neg (by decide), if_neg (by decide), if_neg (by decide), if_neg (by decide), if_pos rfl, nx_cons, nx_cons]
  unfold cmovB
  rw [e1, e2]
  rcases hc with ⟨rfl, rfl⟩ | ⟨rfl, rfl⟩ <;> rfl
theorem both_mid (m d : Int) (h : 0 ≤ m ∧ m ≤ 7) (hd : Reg d) : bothI m d / 8 % 8 = m ∧ lastD (rexI 0 0 d) (bothI m d) = d := by
  have l := loR_b d
  have rs := reg_split hd
  obtain ⟨p1, p2, p3⟩ := rex_parts 0 0 d
  have lm : loR m = m := by unfold loR; omega
  unfold lastD
  rw [p3]
  unfold bothI
  rw [lm]
  omega
theorem dec_grp0 (op c m d : Int) (r : List Int) (h1 : pairOp c = 0) (h2 : c = 247) (hg : grpOp c m = (op, 0)) (hm : 0 ≤ m ∧ m ≤ 7) (hd : Reg d) :
    anyD ([rexI 0 0 d, c, bothI m d] ++ r) false = (⟨op, d, 0, 0, 0, 0, 0, 0, 0⟩, r, false) := by
  show anyD (rexI 0 0 d :: c :: bothI m d :: r) false = _
  rw [anyD_rex _ _ _ (rexI_b 0 0 d)]
  show wideB (rexI 0 0 d) c (bothI m d :: r, false) = _
  obtain ⟨e1, e2⟩ := both_mid m d hm hd
  unfold wideB
  rw [if_neg (show ¬ pairOp c ≠ 0 by rw [h1]; decide), if_neg (by omega), if_neg (by omega), if_neg (by omega), if_neg (by omega), if_neg (by omega), nx_cons, e1, hg]
  unfold grpC
  rw [if_pos rfl, e2]
theorem dec_grp4 (op m d imm : Int) (r : List Int) (hg : grpOp 129 m = (op, 4)) (hm : 0 ≤ m ∧ m ≤ 7) (hd : Reg d) (hn : -2147483648 ≤ imm ∧ imm ≤ 2147483647) :
    anyD ([rexI 0 0 d, 129, bothI m d] ++ littleL imm 4 ++ r) false = (⟨op, d, 0, 0, 0, 0, 0, 0, imm⟩, r, false) := by
  show anyD (rexI 0 0 d :: 129 :: bothI m d :: (littleL imm 4 ++ r)) false = _
  rw [anyD_rex _ _ _ (rexI_b 0 0 d)]
  show wideB (rexI 0 0 d) 129 (bothI m d :: (littleL imm 4 ++ r), false) = _
  obtain ⟨e1, e2⟩ := both_mid m d hm hd
  unfold wideB
  rw [if_neg (by decide), if_neg (by decide), if_neg (by decide), if_neg (by decide), if_neg (by decide), if_neg (by decide), nx_cons, e1, hg]
  unfold grpC
  rw [if_neg (by simp), e2]
  simp only [num4 _ _ _ hn]
theorem dec_grp1 (op m d imm : Int) (r : List Int) (hg : grpOp 193 m = (op, 1)) (hm : 0 ≤ m ∧ m ≤ 7) (hd : Reg d) (hn : 1 ≤ imm ∧ imm ≤ 63) :
    anyD ([rexI 0 0 d, 193, bothI m d] ++ [imm] ++ r) false = (⟨op, d, 0, 0, 0, 0, 0, 0, imm⟩, r, false) := by
  show anyD (rexI 0 0 d :: 193 :: bothI m d :: imm :: r) false = _
  rw [anyD_rex _ _ _ (rexI_b 0 0 d)]
  show wideB (rexI 0 0 d) 193 (bothI m d :: imm :: r, false) = _
  obtain ⟨e1, e2⟩ := both_mid m d hm hd
  unfold wideB
  rw [if_neg (by decide), if_neg (by decide), if_neg (by decide), if_neg (by decide), if_neg (by decide), if_neg (by decide), nx_cons, e1, hg]
  unfold grpC
  rw [if_neg (by simp), e2]
  simp only [num1u _ _ _ hn]
theorem dec_chain (op c d s : Int) (r : List Int) (hc : c = 102 ∧ op = 20 ∨ c = 243 ∧ op = 21) (hd : Reg d) (hs : Reg s) :
    anyD ([c, rexI d 0 s, 15, 56, 246, bothI d s] ++ r) false = (⟨op, d, s, 0, 0, 0, 0, 0, 0⟩, r, false) := by
  obtain ⟨e1, e2⟩ := mid_both d 0 s hd hs (.inl hiR_z)
  show anyD (c :: rexI d 0 s :: 15 :: 56 :: 246 :: bothI d s :: r) false = _
  rcases hc with ⟨rfl, rfl⟩ | ⟨rfl, rfl⟩
  · rw [anyD, if_neg (by decide), if_neg (by decide), if_neg (by decide), if_neg (by decide), if_neg (by decide), if_neg (by decide), if_neg (by decide), if_pos rfl]
    simp only [chainD, nx_cons]; rw [e1, e2]
  · rw [anyD, if_neg (by decide), if_neg (by decide), if_neg (by decide), if_neg (by decide), if_neg (by decide), if_neg (by decide), if_neg (by decide), if_neg (by decide), if_pos rfl]
    simp only [chainD, nx_cons]; rw [e1, e2]
theorem dec_mulx (d s t : Int) (r : List Int) (hd : Reg d) (hs : Reg s) (ht : Reg t) :
    anyD ([196, mulx1 d t, mulx2 s, 246, bothI d t] ++ r) false = (⟨19, d, s, t, 0, 0, 0, 0, 0⟩, r, false) := by
  have l1 := loR_b d; have l2 := loR_b t
  have h1 := hiR_b d; have h2 := hiR_b t
  have r1 := reg_split hd; have r2 := reg_split ht
  unfold Reg at hs
  show anyD (196 :: mulx1 d t :: mulx2 s :: 246 :: bothI d t :: r) false = _
  rw [anyD, if_neg (by decide), if_neg (by decide), if_neg (by decide), if_neg (by decide), if_neg (by decide), if_neg (by decide), if_pos rfl]
  simp only [nx_cons, mulD]
  have a1 : mulx1 d t / 128 = 1 - hiR d := by unfold mulx1; omega
  have a2 : mulx1 d t / 32 % 2 = 1 - hiR t := by unfold mulx1; omega
  rw [a1, a2]
  have e1 : midD ((1 - (1 - hiR d)) * 4 + (1 - (1 - hiR t))) (bothI d t) = d := by unfold midD bothI; omega
  have e2 : lastD ((1 - (1 - hiR d)) * 4 + (1 - (1 - hiR t))) (bothI d t) = t := by unfold lastD bothI; omega
  have e3 : 15 - mulx2 s / 8 % 16 = s := by unfold mulx2; omega
  rw [e1, e2, e3]
theorem or8_lo (x : Int) (h : Reg x) (h1 : hiR x = 1) : or8 (loR x) = x := by
  have l := loR_b x
  have rs := reg_split h
  unfold or8; rw [if_pos (by omega)]; omega
theorem dec_push (s : Int) (r : List Int) (hs : Reg s) : anyD (stackL 80 s ++ r) false = (⟨28, 0, s, 0, 0, 0, 0, 0, 0⟩, r, false) := by
  have l := loR_b s
  have rs := reg_split hs
  have lo : ∀ k, anyD ((80 + loR s) :: r) k = (⟨28, 0, loR s, 0, 0, 0, 0, 0, 0⟩, r, k) := by
    intro k
    rw [anyD, if_neg (by omega), if_pos (by omega), show (80 + loR s) % 8 = loR s by omega]
  unfold stackL
  rcases hiR_01 s with h | h
  · rw [if_neg (by omega)]
    show anyD ((80 + loR s) :: r) false = _
    rw [lo, show loR s = s by omega]
  · rw [if_pos h]
    show anyD (65 :: (80 + loR s) :: r) false = _
    rw [anyD, if_neg (by decide), if_neg (by decide), if_neg (by decide), if_pos rfl, lo]
    simp only [up8]
    rw [if_pos trivial, or8_lo s hs h]
theorem dec_pop (d : Int) (r : List Int) (hd : Reg d) : anyD (stackL 88 d ++ r) false = (⟨29, d, 0, 0, 0, 0, 0, 0, 0⟩, r, false) := by
  have l := loR_b d
  have rs := reg_split hd
  have lo : ∀ k, anyD ((88 + loR d) :: r) k = (⟨29, loR d, 0, 0, 0, 0, 0, 0, 0⟩, r, k) := by
    intro k
    rw [anyD, if_neg (by omega), if_neg (by omega), if_pos (by omega), show (88 + loR d) % 8 = loR d by omega]
  unfold stackL
  rcases hiR_01 d with h | h
  · rw [if_neg (by omega)]
    show anyD ((88 + loR d) :: r) false = _
    rw [lo, show loR d = d by omega]
  · rw [if_pos h]
    show anyD (65 :: (88 + loR d) :: r) false = _
    rw [anyD, if_neg (by decide), if_neg (by decide), if_neg (by decide), if_pos rfl, lo]
    simp only [up8]
    rw [if_neg (by decide), or8_lo d hd h]
theorem dec_jmp (imm : Int) (r : List Int) (hn : -2147483648 ≤ imm ∧ imm ≤ 2147483647) : anyD (jumpL 233 0 imm ++ r) false = (⟨30, 0, 0, 0, 0, 0, 0, 0, imm⟩, r, false) := by
  show anyD (233 :: (littleL imm 4 ++ r)) false = _
  rw [anyD, if_neg (by decide), if_neg (by decide), if_neg (by decide), if_neg (by decide), if_pos rfl, num4 _ _ _ hn]
theorem dec_jcc (op m imm : Int) (r : List Int) (hc : m = 133 ∧ op = 31 ∨ m = 130 ∧ op = 32) (hn : -2147483648 ≤ imm ∧ imm ≤ 2147483647) : anyD (jumpL 15 m imm ++ r) false = (⟨op, 0, 0, 0, 0, 0, 0, 0, imm⟩, r, false) := by
  have e : jumpL 15 m imm ++ r = 15 :: m :: (littleL imm 4 ++ r) := by rcases hc with ⟨rfl, _⟩ | ⟨rfl, _⟩ <;> rfl
  rw [e, anyD, if_neg (by decide), if_neg (by decide), if_neg (by decide), if_neg (by decide), if_neg (by decide), if_pos rfl]
  simp only [nx_cons]
  rw [num4 _ _ _ hn]
  rcases hc with ⟨rfl, rfl⟩ | ⟨rfl, rfl⟩ <;> rfl
theorem dec_ret (r : List Int) : anyD ([195] ++ r) false = (⟨33, 0, 0, 0, 0, 0, 0, 0, 0⟩, r, false) := by
  show anyD (195 :: r) false = _
  rw [anyD, if_pos rfl]
theorem dec_1 (d s t mb mi ms md imm : Int) (r : List Int) (_hi : -9223372036854775808 ≤ imm ∧ imm ≤ 9223372036854775807) (h : chk 1 d s t mb mi ms md imm = true) : anyD (encL 1 d s t mb mi ms md imm ++ r) false = (⟨1, d, s, t, mb, mi, ms, md, imm⟩, r, false) := by
  rw [chk_1] at h
  obtain ⟨rfl, hd, hs, rfl, ⟨rfl, rfl, rfl, rfl⟩⟩ := h
  exact dec_mov d s r hd hs
theorem dec_2 (d s t mb mi ms md imm : Int) (r : List Int) (hi : -9223372036854775808 ≤ imm ∧ imm ≤ 9223372036854775807) (h : chk 2 d s t mb mi ms md imm = true) : anyD (encL 2 d s t mb mi ms md imm ++ r) false = (⟨2, d, s, t, mb, mi, ms, md, imm⟩, r, false) := by
  rw [chk_2] at h
  obtain ⟨_, hd, rfl, rfl, ⟨rfl, rfl, rfl, rfl⟩⟩ := h
  exact dec_wide d imm r hd hi
theorem dec_3 (d s t mb mi ms md imm : Int) (r : List Int) (_hi : -9223372036854775808 ≤ imm ∧ imm ≤ 9223372036854775807) (h : chk 3 d s t mb mi ms md imm = true) : anyD (encL 3 d s t mb mi ms md imm ++ r) false = (⟨3, d, s, t, mb, mi, ms, md, imm⟩, r, false) := by
  rw [chk_3] at h
  obtain ⟨rfl, hd, rfl, rfl, hp⟩ := h
  exact dec_load 3 139 d mb mi ms md r (by decide) hd hp
theorem dec_4 (d s t mb mi ms md imm : Int) (r : List Int) (_hi : -9223372036854775808 ≤ imm ∧ imm ≤ 9223372036854775807) (h : chk 4 d s t mb mi ms md imm = true) : anyD (encL 4 d s t mb mi ms md imm ++ r) false = (⟨4, d, s, t, mb, mi, ms, md, imm⟩, r, false) := by
  rw [chk_4] at h
  obtain ⟨rfl, rfl, hs, rfl, hp⟩ := h
  exact dec_store s mb mi ms md r hs hp
theorem dec_5 (d s t mb mi ms md imm : Int) (r : List Int) (_hi : -9223372036854775808 ≤ imm ∧ imm ≤ 9223372036854775807) (h : chk 5 d s t mb mi ms md imm = true) : anyD (encL 5 d s t mb mi ms md imm ++ r) false = (⟨5, d, s, t, mb, mi, ms, md, imm⟩, r, false) := by
  rw [chk_5] at h
  obtain ⟨rfl, hd, rfl, rfl, hp⟩ := h
  exact dec_load 5 141 d mb mi ms md r (by decide) hd hp
theorem dec_6 (d s t mb mi ms md imm : Int) (r : List Int) (_hi : -9223372036854775808 ≤ imm ∧ imm ≤ 9223372036854775807) (h : chk 6 d s t mb mi ms md imm = true) : anyD (encL 6 d s t mb mi ms md imm ++ r) false = (⟨6, d, s, t, mb, mi, ms, md, imm⟩, r, false) := by
  rw [chk_6] at h
  obtain ⟨rfl, hd, hs, rfl, ⟨rfl, rfl, rfl, rfl⟩⟩ := h
  exact dec_pair 6 1 d s r rfl (by decide) hd hs
theorem dec_7 (d s t mb mi ms md imm : Int) (r : List Int) (_hi : -9223372036854775808 ≤ imm ∧ imm ≤ 9223372036854775807) (h : chk 7 d s t mb mi ms md imm = true) : anyD (encL 7 d s t mb mi ms md imm ++ r) false = (⟨7, d, s, t, mb, mi, ms, md, imm⟩, r, false) := by
  rw [chk_7] at h
  obtain ⟨rfl, hd, hs, rfl, ⟨rfl, rfl, rfl, rfl⟩⟩ := h
  exact dec_pair 7 17 d s r rfl (by decide) hd hs
theorem dec_8 (d s t mb mi ms md imm : Int) (r : List Int) (_hi : -9223372036854775808 ≤ imm ∧ imm ≤ 9223372036854775807) (h : chk 8 d s t mb mi ms md imm = true) : anyD (encL 8 d s t mb mi ms md imm ++ r) false = (⟨8, d, s, t, mb, mi, ms, md, imm⟩, r, false) := by
  rw [chk_8] at h
  obtain ⟨rfl, hd, hs, rfl, ⟨rfl, rfl, rfl, rfl⟩⟩ := h
  exact dec_pair 8 41 d s r rfl (by decide) hd hs
theorem dec_9 (d s t mb mi ms md imm : Int) (r : List Int) (_hi : -9223372036854775808 ≤ imm ∧ imm ≤ 9223372036854775807) (h : chk 9 d s t mb mi ms md imm = true) : anyD (encL 9 d s t mb mi ms md imm ++ r) false = (⟨9, d, s, t, mb, mi, ms, md, imm⟩, r, false) := by
  rw [chk_9] at h
  obtain ⟨rfl, hd, hs, rfl, ⟨rfl, rfl, rfl, rfl⟩⟩ := h
  exact dec_pair 9 25 d s r rfl (by decide) hd hs
theorem dec_10 (d s t mb mi ms md imm : Int) (r : List Int) (_hi : -9223372036854775808 ≤ imm ∧ imm ≤ 9223372036854775807) (h : chk 10 d s t mb mi ms md imm = true) : anyD (encL 10 d s t mb mi ms md imm ++ r) false = (⟨10, d, s, t, mb, mi, ms, md, imm⟩, r, false) := by
  rw [chk_10] at h
  obtain ⟨rfl, hd, hs, rfl, ⟨rfl, rfl, rfl, rfl⟩⟩ := h
  exact dec_pair 10 33 d s r rfl (by decide) hd hs
theorem dec_11 (d s t mb mi ms md imm : Int) (r : List Int) (_hi : -9223372036854775808 ≤ imm ∧ imm ≤ 9223372036854775807) (h : chk 11 d s t mb mi ms md imm = true) : anyD (encL 11 d s t mb mi ms md imm ++ r) false = (⟨11, d, s, t, mb, mi, ms, md, imm⟩, r, false) := by
  rw [chk_11] at h
  obtain ⟨rfl, hd, hs, rfl, ⟨rfl, rfl, rfl, rfl⟩⟩ := h
  exact dec_pair 11 9 d s r rfl (by decide) hd hs
theorem dec_12 (d s t mb mi ms md imm : Int) (r : List Int) (_hi : -9223372036854775808 ≤ imm ∧ imm ≤ 9223372036854775807) (h : chk 12 d s t mb mi ms md imm = true) : anyD (encL 12 d s t mb mi ms md imm ++ r) false = (⟨12, d, s, t, mb, mi, ms, md, imm⟩, r, false) := by
  rw [chk_12] at h
  obtain ⟨rfl, hd, hs, rfl, ⟨rfl, rfl, rfl, rfl⟩⟩ := h
  exact dec_pair 12 49 d s r rfl (by decide) hd hs
theorem dec_13 (d s t mb mi ms md imm : Int) (r : List Int) (_hi : -9223372036854775808 ≤ imm ∧ imm ≤ 9223372036854775807) (h : chk 13 d s t mb mi ms md imm = true) : anyD (encL 13 d s t mb mi ms md imm ++ r) false = (⟨13, d, s, t, mb, mi, ms, md, imm⟩, r, false) := by
  rw [chk_13] at h
  obtain ⟨rfl, hd, hs, rfl, ⟨rfl, rfl, rfl, rfl⟩⟩ := h
  exact dec_pair 13 57 d s r rfl (by decide) hd hs
theorem dec_14 (d s t mb mi ms md imm : Int) (r : List Int) (_hi : -9223372036854775808 ≤ imm ∧ imm ≤ 9223372036854775807) (h : chk 14 d s t mb mi ms md imm = true) : anyD (encL 14 d s t mb mi ms md imm ++ r) false = (⟨14, d, s, t, mb, mi, ms, md, imm⟩, r, false) := by
  rw [chk_14] at h
  obtain ⟨rfl, hd, hs, rfl, ⟨rfl, rfl, rfl, rfl⟩⟩ := h
  exact dec_pair 14 133 d s r rfl (by decide) hd hs
theorem dec_15 (d s t mb mi ms md imm : Int) (r : List Int) (_hi : -9223372036854775808 ≤ imm ∧ imm ≤ 9223372036854775807) (h : chk 15 d s t mb mi ms md imm = true) : anyD (encL 15 d s t mb mi ms md imm ++ r) false = (⟨15, d, s, t, mb, mi, ms, md, imm⟩, r, false) := by
  rw [chk_15] at h
  obtain ⟨hi, hd, rfl, rfl, ⟨rfl, rfl, rfl, rfl⟩⟩ := h
  exact dec_grp4 15 0 d imm r rfl (by decide) hd hi
theorem dec_16 (d s t mb mi ms md imm : Int) (r : List Int) (_hi : -9223372036854775808 ≤ imm ∧ imm ≤ 9223372036854775807) (h : chk 16 d s t mb mi ms md imm = true) : anyD (encL 16 d s t mb mi ms md imm ++ r) false = (⟨16, d, s, t, mb, mi, ms, md, imm⟩, r, false) := by
  rw [chk_16] at h
  obtain ⟨hi, hd, rfl, rfl, ⟨rfl, rfl, rfl, rfl⟩⟩ := h
  exact dec_grp4 16 4 d imm r rfl (by decide) hd hi
theorem dec_17 (d s t mb mi ms md imm : Int) (r : List Int) (_hi : -9223372036854775808 ≤ imm ∧ imm ≤ 9223372036854775807) (h : chk 17 d s t mb mi ms md imm = true) : anyD (encL 17 d s t mb mi ms md imm ++ r) false = (⟨17, d, s, t, mb, mi, ms, md, imm⟩, r, false) := by
  rw [chk_17] at h
  obtain ⟨hi, hd, rfl, rfl, ⟨rfl, rfl, rfl, rfl⟩⟩ := h
  exact dec_grp4 17 5 d imm r rfl (by decide) hd hi
theorem dec_18 (d s t mb mi ms md imm : Int) (r : List Int) (_hi : -9223372036854775808 ≤ imm ∧ imm ≤ 9223372036854775807) (h : chk 18 d s t mb mi ms md imm = true) : anyD (encL 18 d s t mb mi ms md imm ++ r) false = (⟨18, d, s, t, mb, mi, ms, md, imm⟩, r, false) := by
  rw [chk_18] at h
  obtain ⟨hi, hd, rfl, rfl, ⟨rfl, rfl, rfl, rfl⟩⟩ := h
  exact dec_grp4 18 7 d imm r rfl (by decide) hd hi
theorem dec_19 (d s t mb mi ms md imm : Int) (r : List Int) (_hi : -9223372036854775808 ≤ imm ∧ imm ≤ 9223372036854775807) (h : chk 19 d s t mb mi ms md imm = true) : anyD (encL 19 d s t mb mi ms md imm ++ r) false = (⟨19, d, s, t, mb, mi, ms, md, imm⟩, r, false) := by
  rw [chk_19] at h
  obtain ⟨rfl, hd, hs, ht, ⟨rfl, rfl, rfl, rfl⟩, _⟩ := h
  exact dec_mulx d s t r hd hs ht
theorem dec_20 (d s t mb mi ms md imm : Int) (r : List Int) (_hi : -9223372036854775808 ≤ imm ∧ imm ≤ 9223372036854775807) (h : chk 20 d s t mb mi ms md imm = true) : anyD (encL 20 d s t mb mi ms md imm ++ r) false = (⟨20, d, s, t, mb, mi, ms, md, imm⟩, r, false) := by
  rw [chk_20] at h
  obtain ⟨rfl, hd, hs, rfl, ⟨rfl, rfl, rfl, rfl⟩⟩ := h
  exact dec_chain 20 102 d s r (by decide) hd hs
theorem dec_21 (d s t mb mi ms md imm : Int) (r : List Int) (_hi : -9223372036854775808 ≤ imm ∧ imm ≤ 9223372036854775807) (h : chk 21 d s t mb mi ms md imm = true) : anyD (encL 21 d s t mb mi ms md imm ++ r) false = (⟨21, d, s, t, mb, mi, ms, md, imm⟩, r, false) := by
  rw [chk_21] at h
  obtain ⟨rfl, hd, hs, rfl, ⟨rfl, rfl, rfl, rfl⟩⟩ := h
  exact dec_chain 21 243 d s r (by decide) hd hs
theorem dec_22 (d s t mb mi ms md imm : Int) (r : List Int) (_hi : -9223372036854775808 ≤ imm ∧ imm ≤ 9223372036854775807) (h : chk 22 d s t mb mi ms md imm = true) : anyD (encL 22 d s t mb mi ms md imm ++ r) false = (⟨22, d, s, t, mb, mi, ms, md, imm⟩, r, false) := by
  rw [chk_22] at h
  obtain ⟨rfl, hd, rfl, rfl, ⟨rfl, rfl, rfl, rfl⟩⟩ := h
  exact dec_grp0 22 247 3 d r rfl rfl rfl (by decide) hd
theorem dec_23 (d s t mb mi ms md imm : Int) (r : List Int) (_hi : -9223372036854775808 ≤ imm ∧ imm ≤ 9223372036854775807) (h : chk 23 d s t mb mi ms md imm = true) : anyD (encL 23 d s t mb mi ms md imm ++ r) false = (⟨23, d, s, t, mb, mi, ms, md, imm⟩, r, false) := by
  rw [chk_23] at h
  obtain ⟨rfl, hd, rfl, rfl, ⟨rfl, rfl, rfl, rfl⟩⟩ := h
  exact dec_grp0 23 247 2 d r rfl rfl rfl (by decide) hd
theorem dec_24 (d s t mb mi ms md imm : Int) (r : List Int) (_hi : -9223372036854775808 ≤ imm ∧ imm ≤ 9223372036854775807) (h : chk 24 d s t mb mi ms md imm = true) : anyD (encL 24 d s t mb mi ms md imm ++ r) false = (⟨24, d, s, t, mb, mi, ms, md, imm⟩, r, false) := by
  rw [chk_24] at h
  obtain ⟨hi, hd, rfl, rfl, ⟨rfl, rfl, rfl, rfl⟩⟩ := h
  exact dec_grp1 24 4 d imm r rfl (by decide) hd hi
theorem dec_25 (d s t mb mi ms md imm : Int) (r : List Int) (_hi : -9223372036854775808 ≤ imm ∧ imm ≤ 9223372036854775807) (h : chk 25 d s t mb mi ms md imm = true) : anyD (encL 25 d s t mb mi ms md imm ++ r) false = (⟨25, d, s, t, mb, mi, ms, md, imm⟩, r, false) := by
  rw [chk_25] at h
  obtain ⟨hi, hd, rfl, rfl, ⟨rfl, rfl, rfl, rfl⟩⟩ := h
  exact dec_grp1 25 5 d imm r rfl (by decide) hd hi
theorem dec_26 (d s t mb mi ms md imm : Int) (r : List Int) (_hi : -9223372036854775808 ≤ imm ∧ imm ≤ 9223372036854775807) (h : chk 26 d s t mb mi ms md imm = true) : anyD (encL 26 d s t mb mi ms md imm ++ r) false = (⟨26, d, s, t, mb, mi, ms, md, imm⟩, r, false) := by
  rw [chk_26] at h
  obtain ⟨rfl, hd, hs, rfl, ⟨rfl, rfl, rfl, rfl⟩⟩ := h
  exact dec_move 26 66 d s r (by decide) hd hs
theorem dec_27 (d s t mb mi ms md imm : Int) (r : List Int) (_hi : -9223372036854775808 ≤ imm ∧ imm ≤ 9223372036854775807) (h : chk 27 d s t mb mi ms md imm = true) : anyD (encL 27 d s t mb mi ms md imm ++ r) false = (⟨27, d, s, t, mb, mi, ms, md, imm⟩, r, false) := by
  rw [chk_27] at h
  obtain ⟨rfl, hd, hs, rfl, ⟨rfl, rfl, rfl, rfl⟩⟩ := h
  exact dec_move 27 69 d s r (by decide) hd hs
theorem dec_28 (d s t mb mi ms md imm : Int) (r : List Int) (_hi : -9223372036854775808 ≤ imm ∧ imm ≤ 9223372036854775807) (h : chk 28 d s t mb mi ms md imm = true) : anyD (encL 28 d s t mb mi ms md imm ++ r) false = (⟨28, d, s, t, mb, mi, ms, md, imm⟩, r, false) := by
  rw [chk_28] at h
  obtain ⟨rfl, rfl, hs, rfl, ⟨rfl, rfl, rfl, rfl⟩⟩ := h
  exact dec_push s r hs
theorem dec_29 (d s t mb mi ms md imm : Int) (r : List Int) (_hi : -9223372036854775808 ≤ imm ∧ imm ≤ 9223372036854775807) (h : chk 29 d s t mb mi ms md imm = true) : anyD (encL 29 d s t mb mi ms md imm ++ r) false = (⟨29, d, s, t, mb, mi, ms, md, imm⟩, r, false) := by
  rw [chk_29] at h
  obtain ⟨rfl, hd, rfl, rfl, ⟨rfl, rfl, rfl, rfl⟩⟩ := h
  exact dec_pop d r hd
theorem dec_30 (d s t mb mi ms md imm : Int) (r : List Int) (_hi : -9223372036854775808 ≤ imm ∧ imm ≤ 9223372036854775807) (h : chk 30 d s t mb mi ms md imm = true) : anyD (encL 30 d s t mb mi ms md imm ++ r) false = (⟨30, d, s, t, mb, mi, ms, md, imm⟩, r, false) := by
  rw [chk_30] at h
  obtain ⟨hi, rfl, rfl, rfl, ⟨rfl, rfl, rfl, rfl⟩⟩ := h
  exact dec_jmp imm r hi
theorem dec_31 (d s t mb mi ms md imm : Int) (r : List Int) (_hi : -9223372036854775808 ≤ imm ∧ imm ≤ 9223372036854775807) (h : chk 31 d s t mb mi ms md imm = true) : anyD (encL 31 d s t mb mi ms md imm ++ r) false = (⟨31, d, s, t, mb, mi, ms, md, imm⟩, r, false) := by
  rw [chk_31] at h
  obtain ⟨hi, rfl, rfl, rfl, ⟨rfl, rfl, rfl, rfl⟩⟩ := h
  exact dec_jcc 31 133 imm r (by decide) hi
theorem dec_32 (d s t mb mi ms md imm : Int) (r : List Int) (_hi : -9223372036854775808 ≤ imm ∧ imm ≤ 9223372036854775807) (h : chk 32 d s t mb mi ms md imm = true) : anyD (encL 32 d s t mb mi ms md imm ++ r) false = (⟨32, d, s, t, mb, mi, ms, md, imm⟩, r, false) := by
  rw [chk_32] at h
  obtain ⟨hi, rfl, rfl, rfl, ⟨rfl, rfl, rfl, rfl⟩⟩ := h
  exact dec_jcc 32 130 imm r (by decide) hi
theorem dec_33 (d s t mb mi ms md imm : Int) (r : List Int) (_hi : -9223372036854775808 ≤ imm ∧ imm ≤ 9223372036854775807) (h : chk 33 d s t mb mi ms md imm = true) : anyD (encL 33 d s t mb mi ms md imm ++ r) false = (⟨33, d, s, t, mb, mi, ms, md, imm⟩, r, false) := by
  rw [chk_33] at h
  obtain ⟨rfl, rfl, rfl, rfl, ⟨rfl, rfl, rfl, rfl⟩⟩ := h
  exact dec_ret r
theorem dec_any (x : Ins) (r : List Int) (h : x.chk = true) (hi : -9223372036854775808 ≤ x.imm ∧ x.imm ≤ 9223372036854775807) : anyD (x.enc ++ r) false = (x, r, false) := by
  obtain ⟨op, d, s, t, mb, mi, ms, md, imm⟩ := x
  have hr : 1 ≤ op ∧ op ≤ 33 := chk_range h
  have : op = 1 ∨ op = 2 ∨ op = 3 ∨ op = 4 ∨ op = 5 ∨ op = 6 ∨ op = 7 ∨ op = 8 ∨ op = 9 ∨ op = 10 ∨ op = 11 ∨ op = 12 ∨ op = 13 ∨ op = 14 ∨ op = 15 ∨ op = 16 ∨ op = 17 ∨ op = 18 ∨ op = 19 ∨ op = 20 ∨ op = 21 ∨ op = 22 ∨ op = 23 ∨ op = 24 ∨ op = 25 ∨ op = 26 ∨ op = 27 ∨ op = 28 ∨ op = 29 ∨ op = 30 ∨ op = 31 ∨ op = 32 ∨ op = 33 := by omega
  rcases this with rfl | rfl | rfl | rfl | rfl | rfl | rfl | rfl | rfl | rfl | rfl | rfl | rfl | rfl | rfl | rfl | rfl | rfl | rfl | rfl | rfl | rfl | rfl | rfl | rfl | rfl | rfl | rfl | rfl | rfl | rfl | rfl | rfl
  · exact dec_1 d s t mb mi ms md imm r hi h
  · exact dec_2 d s t mb mi ms md imm r hi h
  · exact dec_3 d s t mb mi ms md imm r hi h
  · exact dec_4 d s t mb mi ms md imm r hi h
  · exact dec_5 d s t mb mi ms md imm r hi h
  · exact dec_6 d s t mb mi ms md imm r hi h
  · exact dec_7 d s t mb mi ms md imm r hi h
  · exact dec_8 d s t mb mi ms md imm r hi h
  · exact dec_9 d s t mb mi ms md imm r hi h
  · exact dec_10 d s t mb mi ms md imm r hi h
  · exact dec_11 d s t mb mi ms md imm r hi h
  · exact dec_12 d s t mb mi ms md imm r hi h
  · exact dec_13 d s t mb mi ms md imm r hi h
  · exact dec_14 d s t mb mi ms md imm r hi h
  · exact dec_15 d s t mb mi ms md imm r hi h
  · exact dec_16 d s t mb mi ms md imm r hi h
  · exact dec_17 d s t mb mi ms md imm r hi h
  · exact dec_18 d s t mb mi ms md imm r hi h
  · exact dec_19 d s t mb mi ms md imm r hi h
  · exact dec_20 d s t mb mi ms md imm r hi h
  · exact dec_21 d s t mb mi ms md imm r hi h
  · exact dec_22 d s t mb mi ms md imm r hi h
  · exact dec_23 d s t mb mi ms md imm r hi h
  · exact dec_24 d s t mb mi ms md imm r hi h
  · exact dec_25 d s t mb mi ms md imm r hi h
  · exact dec_26 d s t mb mi ms md imm r hi h
  · exact dec_27 d s t mb mi ms md imm r hi h
  · exact dec_28 d s t mb mi ms md imm r hi h
  · exact dec_29 d s t mb mi ms md imm r hi h
  · exact dec_30 d s t mb mi ms md imm r hi h
  · exact dec_31 d s t mb mi ms md imm r hi h
  · exact dec_32 d s t mb mi ms md imm r hi h
  · exact dec_33 d s t mb mi ms md imm r hi h
/-- No instruction's bytes begin another one's. -/
theorem enc_apart {x y : Ins} {r r' : List Int} (hx : x.chk = true) (hy : y.chk = true) (hxi : -9223372036854775808 ≤ x.imm ∧ x.imm ≤ 9223372036854775807) (hyi : -9223372036854775808 ≤ y.imm ∧ y.imm ≤ 9223372036854775807)
    (h : x.enc ++ r = y.enc ++ r') : x = y := by
  have e1 := dec_any x r hx hxi
  have e2 := dec_any y r' hy hyi
  rw [h, e2] at e1
  exact (Prod.mk.inj e1).1.symm
end Go.Proofs.Ytakmpnmmcjnecaa
