/- SecrecyLess: the walk. -/
import Derived.Test.YtkjlgapkcdcmgaaLk20
set_option linter.unusedVariables false
set_option linter.unusedSimpArgs false
namespace Go.Proofs.Ytkjlgapkcdcmgaa
open Go Go.RowKit SL
attribute [local irreducible] SL.L SL.C SL.D SL.N SL.H SL.QL SL.QW SL.QP

theorem loadP {w : World} {A : List Nat} {b : Nat} {x : Nat × Obj} {M : Hp} {w0 : World} {A0 : List Nat} {l : List Value} {T : Nat} (hw : At w0 A0 M w) (hx : (b, ob l T) ∈ M) (hb : b ∉ A) : Old w A b 0 l := Old.own (hw.holds _ hx) hb _ List.take_length
set_option maxRecDepth 100000 in
set_option maxHeartbeats 16000000 in
theorem less_S (regs which : Int) (vb vo : Value) (bs : List Bf) (os : List Lop) (hbl : bs.length ≤ maxLen) (hol : os.length ≤ maxLen) (hwh : -9223372036854775808 ≤ which ∧ which ≤ 9223372036854775807) :
    Ctr Try.prog 3 [progV regs vb vo, .int .i64 which] [] (fun w => Rd w [] vb bs.length (bs.flatMap encB) ∧ Rd w [] vo os.length (os.flatMap encO)) (is (.bool true) []) := by
  refine Ctr.enter Try.func3 Try.ntmps3 rfl rfl (fun w hr => ?_)
  have s1 := hr.1.1
  have s2 := hr.2.1
  have kL := light_S regs vb vo bs os.length 60 s2 hbl hol
  unfold progV
  repeat' (first | refine C.seq ?_ | refine C.region ?_ | refine L.nil ?_ | refine D.seq ?_ | refine L.assign (k := ?_) | refine L.loadA 0 (c := ?_) | refine L.box (c := fun _ => ?_) | refine C.no (h1 := ?_) | refine L.not (c := ?_) | refine C.skip ?_ | refine L.callQ (lives13_S) (k := ?_))
  rename_i pb
  refine L.callP [] (rcheck_S regs vb vo bs os) (hpre := fun w hw => ⟨hr.1.at hw, hr.2.at hw⟩) (k := ?_)
  rintro v B ⟨rfl, rfl⟩
  rw [hdrop_nil]
  unfold shut
  rw [List.nil_append]
  cases hL : lightM regs bs os.length 60 with
  | false =>
    rw [hL] at kL
    repeat' (first | refine C.seq ?_ | refine C.region ?_ | refine L.nil ?_ | refine D.seq ?_ | refine L.move (k := ?_) | refine L.assign (k := ?_) | refine L.loadA 0 (c := ?_) | refine L.extract (c := ?_) | refine C.yes (h1 := ?_) | refine L.pickT (k := ?_) | refine L.pass (k := ?_) | refine L.not (c := ?_) | refine C.ret ?_ | refine D.thenRet ?_ | refine L.callQ kL (hpre := fun w hw => hr.1.at hw) (k := ?_))
    (refine D.ret (vs := [_]) (RV.tmp rfl RV.nil) ?_; intro w' hw; exact Post.mk (is := []) hw List.nodup_nil rfl ⟨rfl, rfl⟩)
  | true =>
  rw [hL] at kL
  by_cases he : (checkM regs bs os).2 ≠ 0
  · have c1 : cm .neq (checkM regs bs os).2 0 = true := cm_ne he
    repeat' (first | refine C.seq ?_ | refine C.region ?_ | refine L.nil ?_ | refine D.seq ?_ | refine L.move (k := ?_) | refine L.assign (k := ?_) | refine L.cm (c := ?_) | refine L.loadA 0 (c := ?_) | refine L.extract (c := ?_) | refine C.yes (h1 := ?_) | refine L.pickF (k := ?_) | refine L.want (k := ?_) | refine L.not (c := ?_) | refine C.ret ?_ | refine D.thenRet ?_ | refine L.callQ kL (hpre := fun w hw => hr.1.at hw) (k := ?_))
    (refine D.ret (vs := [_]) (RV.tmp rfl RV.nil) ?_; intro w' hw; exact Post.mk (is := []) hw List.nodup_nil rfl ⟨rfl, rfl⟩)
  replace he : (checkM regs bs os).2 = 0 := by omega
  have c1 : cm .neq (checkM regs bs os).2 0 = false := cm_ne' he
  obtain ⟨hl1, hl2, hl3, _⟩ := light_ok hL
  obtain ⟨ha, h0, h64, hb32, hno, hh, hf⟩ := check_ok he
  have kOwn := ownProg_S regs vb vo bs.length os.length (bs.flatMap encB) (os.flatMap encO) (flat_len encB_len bs) (flat_len encO_len os) (ones_flat ones_B bs) (ones_flat ones_O os) (by omega) (by omega) s1 s2
  repeat' (first | refine C.makeA (h := ?_) | refine C.seq ?_ | refine C.region ?_ | refine L.nil ?_ | refine D.seq ?_ | refine L.move (k := ?_) | refine L.assign (k := ?_) | refine L.cm (c := ?_) | refine L.loadA 0 (c := ?_) | refine L.extract (c := ?_) | refine C.no (h1 := ?_) | refine L.pickF (k := ?_) | refine L.want (k := ?_) | refine L.not (c := ?_) | refine C.skip ?_ | refine L.callQ kL (hpre := fun w hw => hr.1.at hw) (k := ?_))
  (refine QP.quiet (v := ?_) (by exact rfl) (by exact rfl) (fun w1 g1 => ?_) ?_; rotate_left); repeat (first | refine L.nil ?_ | refine L.loadA 0 (c := ?_) | exact D.endsQ)
  refine QP.mk0 [] (fun F B => ∃ y1 y2, osG 3 bs.length (bs.flatMap encB) y1 ∧ osG 8 os.length (os.flatMap encO) y2 ∧ F = [(31, progV regs (osV bs.length y1) (osV os.length y2))] ∧ B = osC 33 y1 [] ++ osC 39 y2 []) (h := fun w1 g1 => ?_) (k := ?_)
  · refine L.callP [] kOwn (hpre := fun w' hw => ⟨(hr.1.base g1 _ (fun _ h => h)).at hw, (hr.2.base g1 _ (fun _ h => h)).at hw⟩) (k := ?_)
    rintro v B ⟨y1, y2, hG1, hG2, rfl, rfl⟩
    rw [hdrop_nil, osC_app 33 y1 (osC 39 y2 [])]
    refine L.nil ?_
    exact D.endsP1 (osC 33 y1 [] ++ osC 39 y2 []) (hR := ⟨y1, y2, hG1, hG2, rfl, rfl⟩)
  (refine QP.quiet (v := ?_) (by exact rfl) (by exact rfl) (fun w1 g1 => ?_) ?_; rotate_left); repeat (first | refine L.nil ?_ | refine L.loadA 0 (c := ?_) | exact D.endsQ)
  refine QP.mk0 [] (fun F B => ∃ y1 y2, osG 3 bs.length (bs.flatMap encB) y1 ∧ osG 8 os.length (os.flatMap encO) y2 ∧ F = [(33, progV regs (osV bs.length y1) (osV os.length y2))] ∧ B = osC 33 y1 [] ++ osC 39 y2 []) (h := fun w1 g1 => ?_) (k := ?_)
  · refine L.callP [] kOwn (hpre := fun w' hw => ⟨(hr.1.base g1 _ (fun _ h => h)).at hw, (hr.2.base g1 _ (fun _ h => h)).at hw⟩) (k := ?_)
    rintro v B ⟨y1, y2, hG1, hG2, rfl, rfl⟩
    rw [hdrop_nil, osC_app 33 y1 (osC 39 y2 [])]
    refine L.nil ?_
    exact D.endsP1 (osC 33 y1 [] ++ osC 39 y2 []) (hR := ⟨y1, y2, hG1, hG2, rfl, rfl⟩)
  refine QP.mk0 [] (fun F B => ∃ b, F = [(7, .pointer (some ⟨b, 0, none⟩))] ∧ B = [(b, ob [.int .i64 0, .slice none 0 0, .slice none 0 0] 25)]) (h := fun w1 g1 => ?_) (k := ?_)
  · rw [List.nil_append]
    repeat (first | refine L.nil ?_ | refine L.alloc (c := fun _ => ?_))
    exact D.endsP1 [_] (hR := ⟨_, rfl, rfl⟩)
  refine QP.mk0 [] (fun F B => ∃ b, F = [(8, .pointer (some ⟨b, 0, none⟩))] ∧ B = [(b, ob [.int .i64 0, .slice none 0 0, .slice none 0 0] 25)]) (h := fun w1 g1 => ?_) (k := ?_)
  · rw [List.nil_append]
    repeat (first | refine L.nil ?_ | refine L.alloc (c := fun _ => ?_))
    exact D.endsP1 [_] (hR := ⟨_, rfl, rfl⟩)
  refine QP.mk2 4 1 [] (fun F B => ∃ b y1 y2, osG 3 bs.length (bs.flatMap encB) y1 ∧ osG 8 os.length (os.flatMap encO) y2 ∧ F = [(7, .pointer (some ⟨b, 0, none⟩))] ∧ B = (b, ob [.int .i64 regs, osV bs.length y1, osV os.length y2] 25) :: (osC 33 y1 [] ++ osC 39 y2 [])) (h := ?_) (k := ?_)
  · rintro F1 B1 F2 B2 ⟨b, rfl, rfl⟩ ⟨y1, y2, hG1, hG2, rfl, rfl⟩ w1 g1
    refine L.storeV 0 (vs := [.int .i64 regs, osV bs.length y1, osV os.length y2]) (ho := by simp only [List.all_cons, List.all_nil, oneB_os, Bool.and_true]; rfl) (hM := rfl) (c := ?_)
    refine L.nil ?_
    exact D.endsP0 [(7, .pointer (some ⟨b, 0, none⟩))] ((b, ob [.int .i64 regs, osV bs.length y1, osV os.length y2] 25) :: (osC 33 y1 [] ++ osC 39 y2 [])) (hM := rfl) (hF := fun x u h => by rcases lk_put h with ⟨rfl, rfl⟩ | ⟨_, h⟩; rfl; cases h) (hR := ⟨b, y1, y2, hG1, hG2, rfl, rfl⟩)
  refine QP.mk2 5 3 [] (fun F B => ∃ b y1 y2, osG 3 bs.length (bs.flatMap encB) y1 ∧ osG 8 os.length (os.flatMap encO) y2 ∧ F = [(8, .pointer (some ⟨b, 0, none⟩))] ∧ B = (b, ob [.int .i64 regs, osV bs.length y1, osV os.length y2] 25) :: (osC 33 y1 [] ++ osC 39 y2 [])) (h := ?_) (k := ?_)
  · rintro F1 B1 F2 B2 ⟨b, rfl, rfl⟩ ⟨y1, y2, hG1, hG2, rfl, rfl⟩ w1 g1
    refine L.storeV 0 (vs := [.int .i64 regs, osV bs.length y1, osV os.length y2]) (ho := by simp only [List.all_cons, List.all_nil, oneB_os, Bool.and_true]; rfl) (hM := rfl) (c := ?_)
    refine L.nil ?_
    exact D.endsP0 [(8, .pointer (some ⟨b, 0, none⟩))] ((b, ob [.int .i64 regs, osV bs.length y1, osV os.length y2] 25) :: (osC 33 y1 [] ++ osC 39 y2 [])) (hM := rfl) (hF := fun x u h => by rcases lk_put h with ⟨rfl, rfl⟩ | ⟨_, h⟩; rfl; cases h) (hR := ⟨b, y1, y2, hG1, hG2, rfl, rfl⟩)
  refine QP.fin2 [none, some [], none, some [], some [], some [], some [4, 1], some [5, 3]] 6 7 (nds := [[], [], [], [], [], [], [], []]) (hM := List.Perm.refl _) (k := ?_)
  rintro F1 B1 F2 B2 ⟨qb, yq, yp, hq0, hp0, rfl, rfl⟩ ⟨rb, yr, yt, hr0, ht0, rfl, rfl⟩
  refine D.seqR (h := ?_)
  refine C.perm (M' := ((qb, ob [.int .i64 regs, osV bs.length yq, osV os.length yp] 25) :: (rb, ob [.int .i64 regs, osV bs.length yr, osV os.length yt] 25) :: (pb, ob [.int .i64 regs, vb, vo] 25) :: (osC 39 yp [] ++ osC 39 yt [])) ++ (osC 33 yq [] ++ osC 33 yr [])) (perm_by (fun k => match k with | 0 => [(qb, ob [.int .i64 regs, osV bs.length yq, osV os.length yp] 25)] | 1 => osC 33 yq [] | 2 => osC 39 yp [] | 3 => [(rb, ob [.int .i64 regs, osV bs.length yr, osV os.length yt] 25)] | 4 => osC 33 yr [] | 5 => osC 39 yt [] | _ => [(pb, ob [.int .i64 regs, vb, vo] 25)]) [0, 3, 6, 2, 5, 1, 4] [0, 1, 2, 3, 4, 5, 6] (by simp) (by simp)) ?_
  refine C.base ((qb, ob [.int .i64 regs, osV bs.length yq, osV os.length yp] 25) :: (rb, ob [.int .i64 regs, osV bs.length yr, osV os.length yt] 25) :: (pb, ob [.int .i64 regs, vb, vo] 25) :: (osC 39 yp [] ++ osC 39 yt [])) rfl (fun w1 h1 => ?_)
  have oqb := Old.own (h1.mem (x := (qb, ob [.int .i64 regs, osV bs.length yq, osV os.length yp] 25)) (by simp)) (h1.notin (x := (qb, ob [.int .i64 regs, osV bs.length yq, osV os.length yp] 25)) (by simp)) _ List.take_length
  have orb := Old.own (h1.mem (x := (rb, ob [.int .i64 regs, osV bs.length yr, osV os.length yt] 25)) (by simp)) (h1.notin (x := (rb, ob [.int .i64 regs, osV bs.length yr, osV os.length yt] 25)) (by simp)) _ List.take_length
  have opb := Old.own (h1.mem (x := (pb, ob [.int .i64 regs, vb, vo] 25)) (by simp)) (h1.notin (x := (pb, ob [.int .i64 regs, vb, vo] 25)) (by simp)) _ List.take_length
  have rp := hp0.rdk (T := 39) h1 (fun x hx => by simp [hx]) (fun x hx => h1.notin (by simp [hx]))
  have rt := ht0.rdk (T := 39) h1 (fun x hx => by simp [hx]) (fun x hx => h1.notin (by simp [hx]))
  have q1 := hr.1.back h1
  have q2 := hr.2.back h1
  obtain ⟨vq, hvq⟩ : ∃ v, osV bs.length yq = v := ⟨_, rfl⟩
  obtain ⟨vr, hvr⟩ : ∃ v, osV bs.length yr = v := ⟨_, rfl⟩
  have sq : SlV vq bs.length := hvq ▸ hq0.sl
  have sr : SlV vr bs.length := hvr ▸ hr0.sl
  rw [hvq] at oqb
  rw [hvr] at orb
  obtain ⟨j, hj⟩ : ∃ j, pickI which bs.length = j := ⟨_, rfl⟩
  have hj0 : 0 ≤ j := by
    rw [← hj]; unfold pickI; split
    · omega
    · exact Int.emod_nonneg _ (by omega)
  have kP := pick_S which bs.length hwh (by omega)
  rw [hj] at kP
  repeat' (first | refine C.seq ?_ | refine C.region ?_ | refine L.nil ?_ | refine D.seq ?_ | refine L.assign (k := ?_) | refine C.block ?_)
  refine C.loop (α := Nat × OS × OS) (fun x => x.1 ≤ bs.length ∧ osG 3 bs.length ((qB bs j x.1).flatMap encB) x.2.1 ∧ osV bs.length x.2.1 = vq ∧ osG 3 bs.length ((clrUp bs x.1).flatMap encB) x.2.2 ∧ osV bs.length x.2.2 = vr)
    (fun x => [(1, .int .i64 which), (2, .pointer (some ⟨pb, 0, none⟩)), (7, .pointer (some ⟨qb, 0, none⟩)), (8, .pointer (some ⟨rb, 0, none⟩)), (9, .int .i64 x.1)]) (fun x => osC 33 x.2.1 [] ++ osC 33 x.2.2 []) (fun x => bs.length - x.1) (0, yq, yr)
    (fun a w hs => hs.lessE rfl (lk_cons rfl (lk_cons rfl (lk_cons rfl (lk_cons rfl (lk_cons rfl (fun _ _ h => lk_nil h))))))) ⟨Nat.zero_le _, by rw [qB_zero bs hj0]; exact hq0, hvq, by show osG 3 bs.length ((clrUp bs 0).flatMap encB) yr; rw [show clrUp bs 0 = bs by cases bs <;> rfl]; exact hr0, hvr⟩ ?_
  clear hvq hvr hq0 hr0
  rintro ⟨i, yq, yr⟩ ⟨hi, hGq, hvq, hGr, hvr⟩
  simp only at hi hGq hvq hGr hvr ⊢
  rcases Nat.lt_or_ge i bs.length with hlt | hge
  · have c3 : cm .lss (i : Int) bs.length = true := cm_lo (by omega)
    have c2 : ar .add .i64 (i : Int) 1 = ((i + 1 : Nat) : Int) := wrap_nat (by omega)
    have hGr2 : ∀ y', osG 3 bs.length (((clrUp bs i).flatMap encB).set (i * 3 + 2) (.bool false)) y' → osG 3 bs.length ((clrUp bs (i + 1)).flatMap encB) y' := fun y' h => by
      rw [flat_clr _ _ (by rw [clrUp_len]; exact hlt), clrUp_succ] at h; exact h
    by_cases hij : (i : Int) = j
    · have c4 : cm .eql (i : Int) j = true := cm_yes hij
      have hGq2 : ∀ y', osG 3 bs.length (((qB bs j i).flatMap encB).set (i * 3 + 2) (.bool false)) y' → osG 3 bs.length ((qB bs j (i + 1)).flatMap encB) y' := fun y' h => by
        rw [flat_clr _ _ (by rw [qB_len]; exact hlt), ← hij, qB_eq, hij] at h; exact h
      repeat' (first | refine C.seq ?_ | refine C.region ?_ | refine L.nil ?_ | refine D.seq ?_ | refine L.move (k := ?_) | refine L.assign (k := ?_) | refine L.cm (c := ?_) | refine L.ar (c := ?_) | refine L.fieldAddr (c := ?_) | refine C.yes (h1 := ?_) | refine C.block ?_ | refine D.blkNormal ?_ | refine C.skip ?_ | refine L.loadF opb (i := 1) rfl (c := ?_) | refine L.loadF opb (i := 0) rfl (c := ?_) | refine L.loadF opb (i := 2) rfl (c := ?_) | refine L.loadF oqb (i := 1) rfl (c := ?_) | refine L.loadF orb (i := 1) rfl (c := ?_) | refine L.lenR s1 (c := ?_) | refine L.indexR sq hlt (c := ?_) | refine L.indexR sr hlt (c := ?_) | refine L.callQ (kP) (k := ?_) | refine L.setU (osC 33 yq []) (L2 := []) (j := 2) hGr rfl hvr hlt (by decide) (c := fun hr' hrv' => ?_) | refine L.setU [] (L2 := osC 33 (osSet yr (i * 3 + 2) (.bool false)) []) (j := 2) hGq (osC_app _ _ _).symm hvq hlt (by decide) (c := fun hq' hqv' => ?_))
      exact D.then_ fun a1 w1 hs => ⟨(i + 1, osSet yq (i * 3 + 2) (.bool false), osSet yr (i * 3 + 2) (.bool false)), ⟨by omega, hGq2 _ hq', hqv', hGr2 _ hr', hrv'⟩, by simp only; omega, hs.lessE (osC_app _ _ _) (lk_cons rfl (lk_cons rfl (lk_cons rfl (lk_cons rfl (lk_cons rfl (fun _ _ h => lk_nil h))))))⟩
    · have c4 : cm .eql (i : Int) j = false := cm_no hij
      repeat' (first | refine C.seq ?_ | refine C.region ?_ | refine L.nil ?_ | refine D.seq ?_ | refine L.move (k := ?_) | refine L.assign (k := ?_) | refine L.cm (c := ?_) | refine L.ar (c := ?_) | refine L.fieldAddr (c := ?_) | refine C.yes (h1 := ?_) | refine C.no (h1 := ?_) | refine C.block ?_ | refine D.blkNormal ?_ | refine C.skip ?_ | refine L.loadF opb (i := 1) rfl (c := ?_) | refine L.loadF opb (i := 0) rfl (c := ?_) | refine L.loadF opb (i := 2) rfl (c := ?_) | refine L.loadF oqb (i := 1) rfl (c := ?_) | refine L.loadF orb (i := 1) rfl (c := ?_) | refine L.lenR s1 (c := ?_) | refine L.indexR sq hlt (c := ?_) | refine L.indexR sr hlt (c := ?_) | refine L.callQ (kP) (k := ?_) | refine L.setU (osC 33 yq []) (L2 := []) (j := 2) hGr rfl hvr hlt (by decide) (c := fun hr' hrv' => ?_))
      exact D.then_ fun a1 w1 hs => ⟨(i + 1, yq, osSet yr (i * 3 + 2) (.bool false)), ⟨by omega, by rw [← qB_ne bs hij]; exact hGq, hvq, hGr2 _ hr', hrv'⟩, by simp only; omega, hs.lessE rfl (lk_cons rfl (lk_cons rfl (lk_cons rfl (lk_cons rfl (lk_cons rfl (fun _ _ h => lk_nil h))))))⟩
  have c3 : cm .lss (i : Int) bs.length = false := cm_lo' (by omega)
  have hil : i = bs.length := by omega
  rw [hil, clrUp_all] at hGr
  have kA := Secret_S regs vb vo bs os hbl
  have kB := Secret_S regs vq (osV os.length yp) (qB bs j i) os (by rw [qB_len]; exact hbl)
  have kC := Secret_S regs vr (osV os.length yt) (bs.map clr) os (by simpa using hbl)
  repeat' (first | refine C.makeA (h := ?_) | refine C.seq ?_ | refine C.region ?_ | refine L.nil ?_ | refine D.seq ?_ | refine L.move (k := ?_) | refine L.cm (c := ?_) | refine L.fieldAddr (c := ?_) | refine C.no (h1 := ?_) | refine C.exit ?_ | refine D.thenExit ?_ | refine D.blkExit ?_ | refine D.seqR (h := ?_) | refine L.loadF opb (i := 1) rfl (c := ?_) | refine L.loadF opb (i := 0) rfl (c := ?_) | refine L.loadF opb (i := 2) rfl (c := ?_) | refine L.lenR s1 (c := ?_))
  (refine QP.quiet (v := ?_) (by exact rfl) (by exact rfl) (fun w2 g2 => ?_) ?_; rotate_left); have opb2 := opb.base g2 _ (fun _ h => h); have oqb2 := oqb.base g2 _ (fun _ h => h); have orb2 := orb.base g2 _ (fun _ h => h); repeat (first | refine L.nil ?_ | exact D.endsQ | refine L.loadOA opb2 (i := 0) (ho := rfl) (hi := Nat.le_refl 3) (hcs := rfl) (c := ?_) | refine L.loadOA oqb2 (i := 0) (ho := rfl) (hi := Nat.le_refl 3) (hcs := rfl) (c := ?_) | refine L.loadOA orb2 (i := 0) (ho := rfl) (hi := Nat.le_refl 3) (hcs := rfl) (c := ?_))
  refine QP.mk0 [] (fun F B => ∃ l y, SecIs regs bs os l ∧ osG 1 l.length (l.map Value.bool) y ∧ F = [(59, osV l.length y)] ∧ B = osC 4 y []) (h := fun w2 g2 => ?_) (k := ?_)
  · refine L.callP [] kA (hpre := fun w' hw => ⟨(q1.base g2 _ (fun _ h => h)).at hw, (q2.base g2 _ (fun _ h => h)).at hw⟩) (k := ?_)
    rintro v B ⟨l, y, hs, hG, rfl, rfl⟩
    rw [hdrop_nil]
    refine L.nil ?_
    exact D.endsP1 (osC 4 y []) (hR := ⟨l, y, hs, hG, rfl, rfl⟩)
  (refine QP.quiet (v := ?_) (by exact rfl) (by exact rfl) (fun w2 g2 => ?_) ?_; rotate_left); have opb2 := opb.base g2 _ (fun _ h => h); have oqb2 := oqb.base g2 _ (fun _ h => h); have orb2 := orb.base g2 _ (fun _ h => h); repeat (first | refine L.nil ?_ | exact D.endsQ | refine L.loadOA opb2 (i := 0) (ho := rfl) (hi := Nat.le_refl 3) (hcs := rfl) (c := ?_) | refine L.loadOA oqb2 (i := 0) (ho := rfl) (hi := Nat.le_refl 3) (hcs := rfl) (c := ?_) | refine L.loadOA orb2 (i := 0) (ho := rfl) (hi := Nat.le_refl 3) (hcs := rfl) (c := ?_))
  refine QP.mk0 [] (fun F B => ∃ l y, SecIs regs (qB bs j i) os l ∧ osG 1 l.length (l.map Value.bool) y ∧ F = [(61, osV l.length y)] ∧ B = osC 4 y []) (h := fun w2 g2 => ?_) (k := ?_)
  · refine L.callP [] kB (hpre := fun w' hw => ⟨by rw [qB_len, ← hvq]; exact hGq.rdm (T := 33) hw (fun x hx => by simp [hx]), (rp.base g2 _ (fun _ h => h)).at hw⟩) (k := ?_)
    rintro v B ⟨l, y, hs, hG, rfl, rfl⟩
    rw [hdrop_nil]
    refine L.nil ?_
    exact D.endsP1 (osC 4 y []) (hR := ⟨l, y, hs, hG, rfl, rfl⟩)
  (refine QP.quiet (v := ?_) (by exact rfl) (by exact rfl) (fun w2 g2 => ?_) ?_; rotate_left); have opb2 := opb.base g2 _ (fun _ h => h); have oqb2 := oqb.base g2 _ (fun _ h => h); have orb2 := orb.base g2 _ (fun _ h => h); repeat (first | refine L.nil ?_ | exact D.endsQ | refine L.loadOA opb2 (i := 0) (ho := rfl) (hi := Nat.le_refl 3) (hcs := rfl) (c := ?_) | refine L.loadOA oqb2 (i := 0) (ho := rfl) (hi := Nat.le_refl 3) (hcs := rfl) (c := ?_) | refine L.loadOA orb2 (i := 0) (ho := rfl) (hi := Nat.le_refl 3) (hcs := rfl) (c := ?_))
  refine QP.mk0 [] (fun F B => ∃ l y, SecIs regs (bs.map clr) os l ∧ osG 1 l.length (l.map Value.bool) y ∧ F = [(63, osV l.length y)] ∧ B = osC 4 y []) (h := fun w2 g2 => ?_) (k := ?_)
  · refine L.callP [] kC (hpre := fun w' hw => ⟨by rw [List.length_map, ← hvr]; exact hGr.rdm (T := 33) hw (fun x hx => by simp [hx]), (rt.base g2 _ (fun _ h => h)).at hw⟩) (k := ?_)
    rintro v B ⟨l, y, hs, hG, rfl, rfl⟩
    rw [hdrop_nil]
    refine L.nil ?_
    exact D.endsP1 (osC 4 y []) (hR := ⟨l, y, hs, hG, rfl, rfl⟩)
  refine QP.mk1 1 [] (fun F B => ∃ l y, SecIs regs bs os l ∧ osG 1 l.length (l.map Value.bool) y ∧ F = [(10, osV l.length y)] ∧ B = osC 4 y []) (h := ?_) (k := ?_)
  · rintro F B ⟨l, y, hs, hG, rfl, rfl⟩ w2 g2
    repeat (first | refine L.nil ?_ | refine L.assign (k := ?_))
    exact D.endsP1 (osC 4 y []) (hR := ⟨l, y, hs, hG, rfl, rfl⟩)
  refine QP.mk1 3 [] (fun F B => ∃ l y, SecIs regs (qB bs j i) os l ∧ osG 1 l.length (l.map Value.bool) y ∧ F = [(11, osV l.length y)] ∧ B = osC 4 y []) (h := ?_) (k := ?_)
  · rintro F B ⟨l, y, hs, hG, rfl, rfl⟩ w2 g2
    repeat (first | refine L.nil ?_ | refine L.assign (k := ?_))
    exact D.endsP1 (osC 4 y []) (hR := ⟨l, y, hs, hG, rfl, rfl⟩)
  refine QP.mk1 5 [] (fun F B => ∃ l y, SecIs regs (bs.map clr) os l ∧ osG 1 l.length (l.map Value.bool) y ∧ F = [(12, osV l.length y)] ∧ B = osC 4 y []) (h := ?_) (k := ?_)
  · rintro F B ⟨l, y, hs, hG, rfl, rfl⟩ w2 g2
    repeat (first | refine L.nil ?_ | refine L.assign (k := ?_))
    exact D.endsP1 (osC 4 y []) (hR := ⟨l, y, hs, hG, rfl, rfl⟩)
  refine QP.fin3 [none, some [], none, some [], none, some [], some [1], some [3], some [5]] 6 7 8 (nds := [[], [], [], [], [], [], [], [], []]) (hM := List.Perm.refl _) (k := ?_)
  rintro F1 B1 F2 B2 F3 B3 ⟨la, ya, hsa, hGa, rfl, rfl⟩ ⟨lb, yb, hsb, hGb, rfl, rfl⟩ ⟨lc, yc, hsc, hGc, rfl, rfl⟩
  refine D.seqR (h := ?_)
  refine C.base _ (M' := []) (List.append_nil _).symm (fun w2 h2 => ?_)
  have ra := hGa.rdm (T := 4) h2 (fun x hx => by simp [hx])
  have rb' := hGb.rdm (T := 4) h2 (fun x hx => by simp [hx])
  have rc := hGc.rdm (T := 4) h2 (fun x hx => by simp [hx])
  have rr := hGr.rdm (T := 33) h2 (fun x hx => by simp [hx])
  rw [hvr] at rr
  have rt2 := rt.at h2
  have opb2 := opb.at h2
  have orb2 := orb.at h2
  have q22 := q2.at h2
  have kS := scheck_S regs vr (osV os.length yt) (bs.map clr) os (by simpa using hbl)
  unfold SecIs at hsa hsb hsc
  rw [if_pos he] at hsa
  rw [if_pos (by rw [qB_check]; exact he)] at hsb
  rw [if_pos (by rw [check_clr]; exact he)] at hsc
  obtain ⟨ma, hla, hma, rfl⟩ := hsa
  obtain ⟨mb, hlb, hmb, rfl⟩ := hsb
  obtain ⟨mc, hlc, hmc, rfl⟩ := hsc
  have hsub := least_less (qB_sec bs j i) hla hlb
  have hmc0 := least_none hlc
  subst hmc0
  simp only [secL_len] at ra rb' rc
  obtain ⟨n, hn⟩ : ∃ n : Nat, regs = n := ⟨regs.toNat, by omega⟩
  have hrn : regs.toNat = n := by omega
  simp only [secL_len, hrn] at ra rb' rc ⊢
  repeat' (first | refine C.seq ?_ | refine C.region ?_ | refine L.loadOA orb2 (i := 0) (ho := rfl) (hi := Nat.le_refl 3) (hcs := rfl) (c := ?_))
  refine L.callP [] kS (hpre := fun w' hw => ⟨by rw [List.length_map]; exact rr.at hw, rt2.at hw⟩) (k := ?_)
  rintro v B ⟨x, hx, rfl, rfl⟩
  have hx2 : x = ((os.length : Int), 0) := by
    unfold CheckIs at hx
    rw [if_pos (by rw [check_clr]; exact he)] at hx
    obtain ⟨m0, hl0, _, hx⟩ := hx
    have := least_none hl0
    subst this
    rw [hx, secRun_zero]; simp
  subst hx2
  rw [hdrop_nil, List.nil_append]
  unfold shut
  have g1 : cm .neq (n : Int) regs = false := cm_ne' hn.symm
  have g2 : cm .neq (os.length : Int) os.length = false := cm_ne' rfl
  repeat' (first | refine C.seq ?_ | refine C.region ?_ | refine L.nil ?_ | refine D.seq ?_ | refine L.move (k := ?_) | refine L.assign (k := ?_) | refine L.cm (c := ?_) | refine L.fieldAddr (c := ?_) | refine L.extract (c := ?_) | refine C.no (h1 := ?_) | refine L.pickF (k := ?_) | refine L.want (k := ?_) | refine C.block ?_ | refine C.skip ?_ | refine L.loadF opb2 (i := 1) rfl (c := ?_) | refine L.loadF opb2 (i := 0) rfl (c := ?_) | refine L.loadF opb2 (i := 2) rfl (c := ?_) | refine L.lenR ra.1 (c := ?_) | refine L.lenR rb'.1 (c := ?_) | refine L.lenR rc.1 (c := ?_) | refine L.lenR q22.1 (c := ?_))
  refine C.loop (α := Nat) (fun i => i ≤ n) (fun i => [(2, .pointer (some ⟨pb, 0, none⟩)), (10, osV n ya), (11, osV n yb), (12, osV n yc), (15, .int .i64 i)]) (fun _ => []) (fun i => n - i) 0
    (fun a w hs => hs.lessE rfl (lk_cons rfl (lk_cons rfl (lk_cons rfl (lk_cons rfl (lk_cons rfl (fun _ _ h => lk_nil h))))))) (Nat.zero_le _) ?_
  intro i hi
  rcases Nat.lt_or_ge i n with hlt | hge
  · have c1 : cm .lss (i : Int) regs = true := cm_lo (by omega)
    have c2 : ar .add .i64 (i : Int) 1 = ((i + 1 : Nat) : Int) := wrap_nat (by omega)
    have va := enc_at (enc := Value.bool) (secL_at ma hlt)
    have vb' := enc_at (enc := Value.bool) (secL_at mb hlt)
    have vc := enc_at (enc := Value.bool) (secL_at 0 hlt)
    rw [Nat.zero_testBit] at vc
    have oa := ra.2 (by omega)
    have ob' := rb'.2 (by omega)
    have oc := rc.2 (by omega)
    cases hb : mb.testBit i with
    | true =>
      rw [hb] at vb'
      rw [hsub i hb] at va
      repeat' (first | refine C.seq ?_ | refine C.region ?_ | refine L.nil ?_ | refine D.seq ?_ | refine L.move (k := ?_) | refine L.assign (k := ?_) | refine L.cm (c := ?_) | refine L.ar (c := ?_) | refine L.fieldAddr (c := ?_) | refine C.yes (h1 := ?_) | refine C.no (h1 := ?_) | refine L.pickT (k := ?_) | refine L.pickF (k := ?_) | refine L.want (k := ?_) | refine L.not (c := ?_) | refine C.block ?_ | refine D.blkNormal ?_ | refine C.skip ?_ | refine L.loadF opb2 (i := 1) rfl (c := ?_) | refine L.loadF opb2 (i := 0) rfl (c := ?_) | refine L.loadF opb2 (i := 2) rfl (c := ?_) | refine L.indexR ra.1 hlt (c := ?_) | refine L.indexR rb'.1 hlt (c := ?_) | refine L.indexR rc.1 hlt (c := ?_) | refine L.loadF oa va (c := ?_) | refine L.loadF ob' vb' (c := ?_) | refine L.loadF oc vc (c := ?_))
      exact D.then_ fun a1 w1 hs => ⟨i + 1, by omega, by omega, hs.lessE rfl (lk_cons rfl (lk_cons rfl (lk_cons rfl (lk_cons rfl (lk_cons rfl (fun _ _ h => lk_nil h))))))⟩
    | false =>
      rw [hb] at vb'
      repeat' (first | refine C.seq ?_ | refine C.region ?_ | refine L.nil ?_ | refine D.seq ?_ | refine L.move (k := ?_) | refine L.assign (k := ?_) | refine L.cm (c := ?_) | refine L.ar (c := ?_) | refine L.fieldAddr (c := ?_) | refine C.yes (h1 := ?_) | refine C.no (h1 := ?_) | refine L.pickF (k := ?_) | refine L.want (k := ?_) | refine L.pass (k := ?_) | refine C.block ?_ | refine D.blkNormal ?_ | refine C.skip ?_ | refine L.loadF opb2 (i := 1) rfl (c := ?_) | refine L.loadF opb2 (i := 0) rfl (c := ?_) | refine L.loadF opb2 (i := 2) rfl (c := ?_) | refine L.indexR ra.1 hlt (c := ?_) | refine L.indexR rb'.1 hlt (c := ?_) | refine L.indexR rc.1 hlt (c := ?_) | refine L.loadF oa va (c := ?_) | refine L.loadF ob' vb' (c := ?_) | refine L.loadF oc vc (c := ?_))
      exact D.then_ fun a1 w1 hs => ⟨i + 1, by omega, by omega, hs.lessE rfl (lk_cons rfl (lk_cons rfl (lk_cons rfl (lk_cons rfl (lk_cons rfl (fun _ _ h => lk_nil h))))))⟩
  · have c1 : cm .lss (i : Int) regs = false := cm_lo' (by omega)
    repeat' (first | refine C.seq ?_ | refine C.region ?_ | refine L.nil ?_ | refine D.seq ?_ | refine L.move (k := ?_) | refine L.assign (k := ?_) | refine L.cm (c := ?_) | refine L.fieldAddr (c := ?_) | refine C.no (h1 := ?_) | refine C.ret ?_ | refine C.exit ?_ | refine D.thenExit ?_ | refine D.blkExit ?_ | refine L.loadF opb2 (i := 1) rfl (c := ?_) | refine L.loadF opb2 (i := 0) rfl (c := ?_) | refine L.loadF opb2 (i := 2) rfl (c := ?_))
    (refine D.ret (vs := [_]) (RV.tmp rfl RV.nil) ?_; intro w' hw; exact Post.mk (is := []) (h1.back (At.back (M' := []) (by rw [List.append_nil]; exact h2) hw)) List.nodup_nil rfl ⟨rfl, rfl⟩)
end Go.Proofs.Ytkjlgapkcdcmgaa
