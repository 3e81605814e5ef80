/- SecrecyRuns: the walk. -/
import Derived.Test.YtkjlgapkcdcmgaaLk38
set_option linter.unusedVariables false
set_option linter.unusedSimpArgs false
namespace Go.Proofs.Ytkjlgapkcdcmgaa
open Go Go.RowKit SL
attribute [local irreducible] SL.L SL.C SL.D SL.N SL.H SL.QL SL.QW SL.QP

set_option maxRecDepth 100000 in
set_option maxHeartbeats 16000000 in
theorem runs_S (regs fill : Int) (vb vo v : Value) (bs : List Bf) (os : List Lop) (rs : Rws) (hbl : bs.length ≤ maxLen) (hol : os.length ≤ maxLen) (hrl : rs.length ≤ maxLen) :
    Ctr Try.prog 5 [progV regs vb vo, v, .int .u64 fill] [] (fun w => (Rd w [] vb bs.length (bs.flatMap encB) ∧ Rd w [] vo os.length (os.flatMap encO)) ∧ RdR w [] v rs) (is (.bool true) []) := by
  refine Ctr.enter Try.func5 Try.ntmps5 rfl rfl (fun w hr => ?_)
  have s1 := hr.1.1.1
  have s2 := hr.1.2.1
  have sv := hr.2.1.1
  have kL := light_S regs vb vo bs os.length 60 s2 hbl hol
  have kR := lightRows_S v rs hrl
  have kS := steps12_S regs vb vo bs os
  unfold progV
  repeat' (first | refine C.seq ?_ | refine C.region ?_ | refine L.nil ?_ | refine D.seq ?_ | refine L.assign (k := ?_) | refine L.loadA 0 (c := ?_) | refine L.box (c := fun _ => ?_) | refine C.no (h1 := ?_) | refine L.not (c := ?_) | refine C.skip ?_ | refine L.callQ (lives13_S) (k := ?_))
  rename_i pb
  refine L.callP [] (scheck_S regs vb vo bs os hbl) (hpre := fun w hw => ⟨hr.1.1.at hw, hr.1.2.at hw⟩) (k := ?_)
  rintro u0 B0 ⟨x, hx, rfl, rfl⟩
  rw [hdrop_nil]
  unfold shut
  rw [List.nil_append]
  cases hL : lightM regs bs os.length 60 with
  | false =>
    rw [hL] at kL
    repeat' (first | refine C.seq ?_ | refine C.region ?_ | refine L.nil ?_ | refine D.seq ?_ | refine L.move (k := ?_) | refine L.assign (k := ?_) | refine L.loadA 0 (c := ?_) | refine L.extract (c := ?_) | refine C.yes (h1 := ?_) | refine L.pickT (k := ?_) | refine L.pass (k := ?_) | refine L.not (c := ?_) | refine C.ret ?_ | refine D.thenRet ?_ | refine L.callQ kL (hpre := fun w hw => hr.1.1.at hw) (k := ?_))
    (refine D.ret (vs := [_]) (RV.tmp rfl RV.nil) ?_; intro w' hw; exact Post.mk (is := []) hw List.nodup_nil rfl ⟨rfl, rfl⟩)
  | true =>
  rw [hL] at kL
  cases hA : lightRowsM rs with
  | false =>
    rw [hA] at kR
    repeat' (first | refine C.seq ?_ | refine C.region ?_ | refine L.nil ?_ | refine D.seq ?_ | refine L.move (k := ?_) | refine L.assign (k := ?_) | refine L.loadA 0 (c := ?_) | refine L.extract (c := ?_) | refine C.yes (h1 := ?_) | refine L.pickT (k := ?_) | refine L.pickF (k := ?_) | refine L.want (k := ?_) | refine L.pass (k := ?_) | refine L.not (c := ?_) | refine C.ret ?_ | refine D.thenRet ?_ | refine L.callQ kL (hpre := fun w hw => hr.1.1.at hw) (k := ?_) | refine L.callQ kR (hpre := fun w hw => hr.2.at hw) (k := ?_))
    (refine D.ret (vs := [_]) (RV.tmp rfl RV.nil) ?_; intro w' hw; exact Post.mk (is := []) hw List.nodup_nil rfl ⟨rfl, rfl⟩)
  | true =>
  rw [hA] at kR
  by_cases he : x.2 ≠ 0
  · have c1 : cm .neq x.2 0 = true := cm_ne he
    repeat' (first | refine C.seq ?_ | refine C.region ?_ | refine L.nil ?_ | refine D.seq ?_ | refine L.move (k := ?_) | refine L.assign (k := ?_) | refine L.cm (c := ?_) | refine L.loadA 0 (c := ?_) | refine L.extract (c := ?_) | refine C.yes (h1 := ?_) | refine L.pickT (k := ?_) | refine L.pickF (k := ?_) | refine L.want (k := ?_) | refine L.pass (k := ?_) | refine L.not (c := ?_) | refine C.ret ?_ | refine D.thenRet ?_ | refine L.callQ kL (hpre := fun w hw => hr.1.1.at hw) (k := ?_) | refine L.callQ kR (hpre := fun w hw => hr.2.at hw) (k := ?_))
    (refine D.ret (vs := [_]) (RV.tmp rfl RV.nil) ?_; intro w' hw; exact Post.mk (is := []) hw List.nodup_nil rfl ⟨rfl, rfl⟩)
  replace he : x.2 = 0 := by omega
  have c1 : cm .neq x.2 0 = false := cm_ne' he
  obtain ⟨hck, m, hm, hsr⟩ : (checkM regs bs os).2 = 0 ∧ ∃ m, Least bs os m ∧ (secRun bs m os 0).2 = 0 := by
    unfold CheckIs at hx
    split at hx
    · rename_i hc; obtain ⟨m, h1, _, h2⟩ := hx; exact ⟨hc, m, h1, by rw [← h2]; exact he⟩
    · rename_i hc; rw [hx] at he; exact absurd he hc
  have hss : stepsR regs bs os = stepsM os := by unfold stepsR; rw [if_pos hck]
  rw [hss] at kS
  by_cases hst : 5000 < stepsM os
  · have c2 : cm .gtr (stepsM os) 5000 = true := cm_gt hst
    repeat' (first | refine C.seq ?_ | refine C.region ?_ | refine L.nil ?_ | refine D.seq ?_ | refine L.move (k := ?_) | refine L.assign (k := ?_) | refine L.cm (c := ?_) | refine L.loadA 0 (c := ?_) | refine L.extract (c := ?_) | refine C.yes (h1 := ?_) | refine L.pickT (k := ?_) | refine L.pickF (k := ?_) | refine L.want (k := ?_) | refine L.pass (k := ?_) | refine L.not (c := ?_) | refine C.ret ?_ | refine D.thenRet ?_ | refine L.callQ kL (hpre := fun w hw => hr.1.1.at hw) (k := ?_) | refine L.callQ kR (hpre := fun w hw => hr.2.at hw) (k := ?_) | refine L.callQ kS (hpre := fun w hw => ⟨hr.1.1.at hw, hr.1.2.at hw⟩) (k := ?_))
    (refine D.ret (vs := [_]) (RV.tmp rfl RV.nil) ?_; intro w' hw; exact Post.mk (is := []) hw List.nodup_nil rfl ⟨rfl, rfl⟩)
  have c2 : cm .gtr (stepsM os) 5000 = false := cm_gt' (by omega)
  by_cases hln : rs.length ≠ bs.length
  · have c3 : cm .neq (rs.length : Int) bs.length = true := cm_ne (by omega)
    repeat' (first | refine C.seq ?_ | refine C.region ?_ | refine L.nil ?_ | refine D.seq ?_ | refine L.move (k := ?_) | refine L.assign (k := ?_) | refine L.cm (c := ?_) | refine L.fieldAddr (c := ?_) | refine L.load1 0 (c := ?_) | refine L.loadA 0 (c := ?_) | refine L.extract (c := ?_) | refine C.yes (h1 := ?_) | refine L.pickF (k := ?_) | refine L.want (k := ?_) | refine L.not (c := ?_) | refine C.ret ?_ | refine D.thenRet ?_ | refine L.callQ kL (hpre := fun w hw => hr.1.1.at hw) (k := ?_) | refine L.callQ kR (hpre := fun w hw => hr.2.at hw) (k := ?_) | refine L.callQ kS (hpre := fun w hw => ⟨hr.1.1.at hw, hr.1.2.at hw⟩) (k := ?_) | refine L.lenR sv (c := ?_) | refine L.lenR s1 (c := ?_))
    (refine D.ret (vs := [_]) (RV.tmp rfl RV.nil) ?_; intro w' hw; exact Post.mk (is := []) hw List.nodup_nil rfl ⟨rfl, rfl⟩)
  replace hln : rs.length = bs.length := by omega
  have c3 : cm .neq (rs.length : Int) bs.length = false := cm_ne' (by omega)
  obtain ⟨h40, h600⟩ := lightRows_ok hA
  repeat' (first | refine C.seq ?_ | refine C.region ?_ | refine L.nil ?_ | refine D.seq ?_ | refine L.move (k := ?_) | refine L.assign (k := ?_) | refine L.cm (c := ?_) | refine L.fieldAddr (c := ?_) | refine L.load1 0 (c := ?_) | refine L.loadA 0 (c := ?_) | refine L.extract (c := ?_) | refine C.no (h1 := ?_) | refine L.pickF (k := ?_) | refine L.want (k := ?_) | refine L.not (c := ?_) | refine C.skip ?_ | refine L.callQ kL (hpre := fun w hw => hr.1.1.at hw) (k := ?_) | refine L.callQ kR (hpre := fun w hw => hr.2.at hw) (k := ?_) | refine L.callQ kS (hpre := fun w hw => ⟨hr.1.1.at hw, hr.1.2.at hw⟩) (k := ?_) | refine L.lenR sv (c := ?_) | refine L.lenR s1 (c := ?_))
  refine L.callP [] (ownRows_S v rs (by omega) (fun r hr => by have := h600 r hr; omega)) (hpre := fun w hw => hr.2.at hw) (k := ?_)
  rintro u0 B0 ⟨y, ys0, hR0, hG, rfl, rfl⟩
  rw [hdrop_nil]
  unfold shut
  repeat' (first | refine C.seq ?_ | refine C.region ?_ | refine L.nil ?_ | refine D.seq ?_ | refine L.assign (k := ?_) | refine C.block ?_)
  refine C.perm (M' := (pb, ob [.int .i64 regs, vb, vo] 25) :: (osC 47 y [] ++ rowsHp ys0)) (List.perm_append_comm (l₁ := [(pb, ob [.int .i64 regs, vb, vo] 25)])) ?_
  obtain ⟨RVs, hRV⟩ : ∃ l, rowsV (rs.map (·.2)) ys0 = l := ⟨_, rfl⟩
  rw [hRV] at hG
  refine C.loop (α := Nat × List (List Int) × List OS) (fun z => z.1 ≤ rs.length ∧ rowsG z.2.1 z.2.2 ∧ rowsV z.2.1 z.2.2 = RVs ∧ z.2.1.length = rs.length ∧ ∀ (j : Nat) (b : Bf) (r : Value × List Int), bs[j]? = some b → rs[j]? = some r → z.2.1[j]? = some (if j < z.1 then turnR fill b r.2 else r.2))
    (fun z => [(1, v), (2, .int .u64 fill), (3, .pointer (some ⟨pb, 0, none⟩)), (9, osV rs.length y), (10, .int .i64 z.1)]) (fun z => (pb, ob [.int .i64 regs, vb, vo] 25) :: (osC 47 y [] ++ rowsHp z.2.2)) (fun z => rs.length - z.1) (0, rs.map (·.2), ys0) (fun a w hs => hs.lessE rfl (lk_cons rfl (lk_cons rfl (lk_cons rfl (lk_cons rfl (lk_cons rfl (fun _ _ h => lk_nil h))))))) ?_ ?_
  · exact ⟨Nat.zero_le _, hR0, hRV, by simp, fun j b r _ hr => by rw [List.getElem?_map, hr]; simp⟩
  rintro ⟨i, ls, ys⟩ ⟨hi, hR, hV, hll, hls⟩
  simp only at hi hR hV hll hls ⊢
  rcases Nat.lt_or_ge i rs.length with hi2 | hge
  · have k1 : cm .lss (i : Int) rs.length = true := cm_lo (by omega)
    have k2 : ar .add .i64 (i : Int) 1 = ((i + 1 : Nat) : Int) := wrap_nat (by omega)
    have hib : i < bs.length := by omega
    obtain ⟨b, hb⟩ : ∃ b, bs[i]? = some b := ⟨_, List.getElem?_eq_getElem hib⟩
    obtain ⟨r, hry⟩ : ∃ r, rs[i]? = some r := ⟨_, List.getElem?_eq_getElem hi2⟩
    obtain ⟨yi, hyi⟩ : ∃ yi, ys[i]? = some yi := ⟨_, List.getElem?_eq_getElem (by rw [hR.1]; omega)⟩
    have hli := hls i b r hb hry
    rw [if_neg (by omega)] at hli
    have o1 := hr.1.1.2 (by omega)
    obtain ⟨q0, q1, q2⟩ := b_at hb
    have h6 := h600 r (List.mem_of_getElem? hry)
    have hGi := hR.2 i r.2 yi hli hyi
    obtain ⟨rwv, hrwv⟩ : ∃ x, osV r.2.length yi = x := ⟨_, rfl⟩
    have hcell := rowsV_at hli hyi
    rw [hV, hrwv] at hcell
    have hzs := hGi.sl
    rw [hrwv] at hzs
    repeat' (first | refine C.seq ?_ | refine C.region ?_ | refine L.nil ?_ | refine D.seq ?_ | refine L.move (k := ?_) | refine L.assign (k := ?_) | refine L.cm (c := ?_) | refine C.yes (h1 := ?_) | refine C.block ?_ | refine C.skip ?_ | refine L.lenR hG.sl (c := ?_))
    refine C.loop (α := Nat × OS) (fun z => z.1 ≤ r.2.length ∧ (z.1 = 0 ∨ b.sec = true) ∧ osG 1 r.2.length ((rowK fill r.2 z.1).map u64) z.2 ∧ osV r.2.length z.2 = rwv)
      (fun z => [(1, v), (2, .int .u64 fill), (3, .pointer (some ⟨pb, 0, none⟩)), (9, osV rs.length y), (10, .int .i64 i), (11, .int .i64 z.1)]) (fun z => (pb, ob [.int .i64 regs, vb, vo] 25) :: (osC 47 y [] ++ (rowsHp (ys.take i) ++ (osC 37 z.2 [] ++ rowsHp (ys.drop (i + 1)))))) (fun z => r.2.length - z.1) (0, yi) (fun a w hs => hs.lessE (by rw [rows_cut hyi]) (lk_cons rfl (lk_cons rfl (lk_cons rfl (lk_cons rfl (lk_cons rfl (lk_cons rfl (fun _ _ h => lk_nil h)))))))) ?_ ?_
    · exact ⟨Nat.zero_le _, .inl rfl, by simpa [rowK] using hGi, hrwv⟩
    rintro ⟨k, z⟩ ⟨hk, hks, hGz, hzv⟩
    simp only at hk hks hGz hzv ⊢
    have hMz : ((pb, ob [.int .i64 regs, vb, vo] 25) :: (osC 47 y [] ++ (rowsHp (ys.take i) ++ (osC 37 z [] ++ rowsHp (ys.drop (i + 1)))))) = [(pb, ob [.int .i64 regs, vb, vo] 25)] ++ osC 47 y (rowsHp (ys.take i) ++ (osC 37 z [] ++ rowsHp (ys.drop (i + 1)))) := by rw [osC_app 47 y (rowsHp (ys.take i) ++ (osC 37 z [] ++ rowsHp (ys.drop (i + 1))))]; rfl
    have hM0 : ((pb, ob [.int .i64 regs, vb, vo] 25) :: (osC 47 y [] ++ (rowsHp (ys.take i) ++ rowsHp (ys.drop (i + 1))))) = [(pb, ob [.int .i64 regs, vb, vo] 25)] ++ osC 47 y (rowsHp (ys.take i) ++ rowsHp (ys.drop (i + 1))) := by rw [osC_app 47 y (rowsHp (ys.take i) ++ rowsHp (ys.drop (i + 1)))]; rfl
    have fin : (k = r.2.length ∨ b.sec = false) → rowsG (ls.set i (turnR fill b r.2)) (ys.set i z) ∧ rowsV (ls.set i (turnR fill b r.2)) (ys.set i z) = RVs ∧ (ls.set i (turnR fill b r.2)).length = rs.length ∧ (∀ (j : Nat) (b' : Bf) (r' : Value × List Int), bs[j]? = some b' → rs[j]? = some r' → (ls.set i (turnR fill b r.2))[j]? = some (if j < i + 1 then turnR fill b' r'.2 else r'.2)) ∧ rowsHp (ys.set i z) = rowsHp (ys.take i) ++ (osC 37 z [] ++ rowsHp (ys.drop (i + 1))) := by
      intro hke
      have hrk := turnR_end (fill := fill) hks hke
      refine ⟨rowsG_set hR ?_, ?_, by rw [List.length_set]; exact hll, fun j b' r' hb' hr' => ?_, rows_set hyi⟩
      · rw [turnR_len, ← hrk]; exact hGz
      · rw [rowsV_keep hli hyi (by rw [turnR_len, hzv, hrwv]), hV]
      · by_cases hj : i = j
        · subst hj
          rw [hb] at hb'; cases hb'
          rw [hry] at hr'; cases hr'
          rw [List.getElem?_set_self (by omega), if_pos (by omega)]
        · rw [List.getElem?_set_ne hj, hls j b' r' hb' hr']
          by_cases hji : j < i
          · rw [if_pos hji, if_pos (by omega)]
          · rw [if_neg hji, if_neg (by omega)]
    rcases Nat.lt_or_ge k r.2.length with hk2 | hk2
    · have k3 : cm .lss (k : Int) r.2.length = true := cm_lo (by omega)
      have k4 : ar .add .i64 (k : Int) 1 = ((k + 1 : Nat) : Int) := wrap_nat (by omega)
      obtain ⟨xk, hxk⟩ : ∃ x, r.2[k]? = some x := ⟨_, List.getElem?_eq_getElem hk2⟩
      have hxc : ((rowK fill r.2 k).map u64)[k * 1 + 0]? = some (.int .u64 xk) := enc_at (enc := u64) (rowK_at hxk)
      cases hsec : b.sec with
      | false =>
        rw [hsec] at q2
        repeat' (first | refine C.seq ?_ | refine C.region ?_ | refine L.nil ?_ | refine D.seq ?_ | refine L.move (k := ?_) | refine L.assign (k := ?_) | refine L.cm (c := ?_) | refine L.ar (c := ?_) | refine L.fieldAddr (c := ?_) | refine L.load1 0 (c := ?_) | refine C.no (h1 := ?_) | refine L.pickT (k := ?_) | refine L.want (k := ?_) | refine D.blkNormal ?_ | refine C.exit ?_ | refine D.thenExit ?_ | refine D.blkExit ?_ | refine D.seqR (h := ?_) | refine L.loadW [(pb, ob [.int .i64 regs, vb, vo] 25)] (L2 := rowsHp (ys.take i) ++ (osC 37 z [] ++ rowsHp (ys.drop (i + 1)))) (i := i) (j := 0) hG hMz rfl hi2 (by decide) hcell (c := ?_) | refine L.indexR hG.sl hi2 (c := ?_) | refine L.lenR hzs (c := ?_) | refine L.indexR s1 hib (c := ?_) | refine L.loadF o1 q2 (c := ?_))
        obtain ⟨f1, f2, f3, f4, f5⟩ := fin (.inr hsec)
        exact D.then_ fun a1 w1 hs => ⟨(i + 1, ls.set i (turnR fill b r.2), ys.set i z), ⟨by omega, f1, f2, f3, f4⟩, by simp only; omega, hs.lessE (by rw [f5]) (lk_cons rfl (lk_cons rfl (lk_cons rfl (lk_cons rfl (lk_cons rfl (fun _ _ h => lk_nil h))))))⟩
      | true =>
        rw [hsec] at q2
        repeat' (first | refine C.make ((pb, ob [.int .i64 regs, vb, vo] 25) :: (osC 47 y [] ++ (rowsHp (ys.take i) ++ rowsHp (ys.drop (i + 1))))) (by kernel_rfl) (h := ?_) | refine C.seq ?_ | refine C.region ?_ | refine L.nil ?_ | refine D.seq ?_ | refine L.move (k := ?_) | refine L.cm (c := ?_) | refine L.fieldAddr (c := ?_) | refine L.load1 0 (c := ?_) | refine C.yes (h1 := ?_) | refine L.pickT (k := ?_) | refine L.want (k := ?_) | refine C.block ?_ | refine C.skip ?_ | refine L.loadW [(pb, ob [.int .i64 regs, vb, vo] 25)] (L2 := rowsHp (ys.take i) ++ (osC 37 z [] ++ rowsHp (ys.drop (i + 1)))) (i := i) (j := 0) hG hMz rfl hi2 (by decide) hcell (c := ?_) | refine L.indexR hG.sl hi2 (c := ?_) | refine L.lenR hzs (c := ?_) | refine L.indexR s1 hib (c := ?_) | refine L.loadF o1 q2 (c := ?_))
        iterate 11 ((refine QP.quiet (v := ?_) (by exact rfl) (by exact rfl) (fun w1 g1 => ?_) ?_; rotate_left); repeat (first | refine L.nil ?_ | refine L.move (k := ?_) | exact D.endsQ | refine L.loadW [(pb, ob [.int .i64 regs, vb, vo] 25)] (L2 := rowsHp (ys.take i) ++ rowsHp (ys.drop (i + 1))) (i := i) (j := 0) hG hM0 rfl hi2 (by decide) hcell (c := ?_) | refine L.indexR hG.sl hi2 (c := ?_) | refine L.indexR hzs hk2 (c := ?_)))
        (refine QP.quietI (v := ?_) [16] (osC 37 z [] ++ []) (by exact rfl) (by exact rfl) (fun w1 g1 => ?_) ?_; rotate_left); repeat (first | refine L.nil ?_ | exact D.endsQ | refine L.loadW [] (L2 := ((pb, ob [.int .i64 regs, vb, vo] 25) :: (osC 47 y [] ++ (rowsHp (ys.take i) ++ rowsHp (ys.drop (i + 1)))))) (j := 0) hGz (by rw [List.append_nil, osC_app 37 z ((pb, ob [.int .i64 regs, vb, vo] 25) :: (osC 47 y [] ++ (rowsHp (ys.take i) ++ rowsHp (ys.drop (i + 1)))))]; rfl) hzv hk2 (by decide) hxc (c := ?_))
        iterate 4 ((refine QP.quiet (v := ?_) (by exact rfl) (by exact rfl) (fun w1 g1 => ?_) ?_; rotate_left); repeat (first | refine L.nil ?_ | refine L.move (k := ?_) | refine L.ar (c := ?_) | exact D.endsQ | refine L.loadW [(pb, ob [.int .i64 regs, vb, vo] 25)] (L2 := rowsHp (ys.take i) ++ rowsHp (ys.drop (i + 1))) (i := i) (j := 0) hG hM0 rfl hi2 (by decide) hcell (c := ?_) | refine L.indexR hG.sl hi2 (c := ?_) | refine L.indexR hzs hk2 (c := ?_)))
        refine QP.mk0 (osC 37 z []) (fun F B => F = [] ∧ B = osC 37 (osSet z (k * 1 + 0) (.int .u64 (turnV fill xk))) []) (h := fun w1 g1 => ?_) (k := ?_)
        · refine L.setU [] (i := k) (j := 0) hGz (by rw [List.nil_append]; exact (osC_app _ _ _).symm) hzv hk2 (by decide) (c := fun hG' hv' => ?_)
          refine L.nil ?_
          exact D.endsP0 [] (osC 37 (osSet z (k * 1 + 0) (.int .u64 (turnV fill xk))) []) (hM := by rw [List.nil_append]; exact (osC_app _ _ _)) (hF := fun _ _ h => by cases h) (hR := ⟨rfl, rfl⟩)
        refine QP.fin1 [none, none, none, none, none, none, none, none, none, none, none, none, none, none, none, none, some []] 16 (nds := [[], [], [], [], [], [], [], [], [], [], [], [16], [], [], [], [], []]) (hM := ?_) (k := ?_)
        · exact perm_by (fun kk => match kk with | 0 => [(pb, ob [.int .i64 regs, vb, vo] 25)] | 1 => osC 47 y [] | 2 => rowsHp (ys.take i) | 3 => osC 37 z [] | _ => rowsHp (ys.drop (i + 1))) [0, 1, 2, 3, 4] [3, 0, 1, 2, 4] (by simp) (by simp [Pl.ini])
        rintro F B ⟨rfl, rfl⟩
        rw [List.nil_append]
        refine D.perm (M' := (pb, ob [.int .i64 regs, vb, vo] 25) :: (osC 47 y [] ++ (rowsHp (ys.take i) ++ (osC 37 (osSet z (k * 1 + 0) (.int .u64 (turnV fill xk))) [] ++ rowsHp (ys.drop (i + 1)))))) ?_ ?_
        · exact perm_by (fun kk => match kk with | 0 => [(pb, ob [.int .i64 regs, vb, vo] 25)] | 1 => osC 47 y [] | 2 => rowsHp (ys.take i) | 3 => osC 37 (osSet z (k * 1 + 0) (.int .u64 (turnV fill xk))) [] | _ => rowsHp (ys.drop (i + 1))) [0, 1, 2, 3, 4] [3, 0, 1, 2, 4] (by simp) (by simp)
        repeat' (first | refine C.region ?_ | refine L.nil ?_ | refine D.seq ?_ | refine L.move (k := ?_) | refine L.assign (k := ?_) | refine L.ar (c := ?_) | refine D.blkNormal ?_)
        refine D.then_ fun a1 w1 hs => ⟨(k + 1, (osSet z (k * 1 + 0) (.int .u64 (turnV fill xk)))), ⟨by simp only; omega, .inr rfl, ?_, ?_⟩, by simp only; omega, hs.lessE rfl (lk_cons rfl (lk_cons rfl (lk_cons rfl (lk_cons rfl (lk_cons rfl (lk_cons rfl (fun _ _ h => lk_nil h)))))))⟩
        · have := hGz.set (k := k * 1 + 0) (v := .int .u64 (turnV fill xk))
          simp only
          rw [← rowK_succ hxk, List.map_set]
          rwa [Nat.mul_one, Nat.add_zero] at this ⊢
        · simp only [osV_set]; exact hzv
    · have k3 : cm .lss (k : Int) r.2.length = false := cm_lo' (by omega)
      repeat' (first | refine C.seq ?_ | refine C.region ?_ | refine L.nil ?_ | refine D.seq ?_ | refine L.move (k := ?_) | refine L.assign (k := ?_) | refine L.cm (c := ?_) | refine L.ar (c := ?_) | refine C.no (h1 := ?_) | refine L.pickF (k := ?_) | refine L.pass (k := ?_) | refine D.blkNormal ?_ | refine C.exit ?_ | refine D.thenExit ?_ | refine D.blkExit ?_ | refine D.seqR (h := ?_) | refine L.loadW [(pb, ob [.int .i64 regs, vb, vo] 25)] (L2 := rowsHp (ys.take i) ++ (osC 37 z [] ++ rowsHp (ys.drop (i + 1)))) (i := i) (j := 0) hG hMz rfl hi2 (by decide) hcell (c := ?_) | refine L.indexR hG.sl hi2 (c := ?_) | refine L.lenR hzs (c := ?_) | refine L.indexR s1 hib (c := ?_) | refine L.loadF o1 q2 (c := ?_))
      obtain ⟨f1, f2, f3, f4, f5⟩ := fin (.inl (by omega))
      exact D.then_ fun a1 w1 hs => ⟨(i + 1, ls.set i (turnR fill b r.2), ys.set i z), ⟨by omega, f1, f2, f3, f4⟩, by simp only; omega, hs.lessE (by rw [f5]) (lk_cons rfl (lk_cons rfl (lk_cons rfl (lk_cons rfl (lk_cons rfl (fun _ _ h => lk_nil h))))))⟩
  · have k1 : cm .lss (i : Int) rs.length = false := cm_lo' (by omega)
    have hls2 := turned_eq (fill := fill) (ls := ls) (by omega) hln (fun j b r hb hr => by
      have hj := (List.getElem?_eq_some_iff.1 hr).1
      have := hls j b r hb hr
      rwa [if_pos (by omega)] at this)
    have hT : Trn fill bs rs (rwsOf ls ys) := by rw [hls2]; exact trn_of hln (by rw [hR.1, hll]; exact hln)
    have kP := public_S regs vb vo v (osV rs.length y) bs os rs (rwsOf ls ys) (by omega) (fun r hr => by have := h600 r hr; omega)
    rw [hT.pub hck] at kP
    have kRo := rrows_S regs vb vo v bs rs (by omega)
    have hGV : osG 1 rs.length (rowsV ls ys) y := by rw [hV]; exact hG
    have own : ∀ (X : Hp) (w0 : World) (A0 : List Nat) (w1 : World), At w0 A0 (X ++ ((pb, ob [.int .i64 regs, vb, vo] 25) :: (osC 47 y [] ++ rowsHp ys))) w1 → RdR w1 [] (osV rs.length y) (rwsOf ls ys) := fun X w0 A0 w1 hw => own_rdR hR hll hGV hw (fun x hx => by simp [hx]) (fun x hx => by simp [hx])
    repeat' (first | refine C.seq ?_ | refine C.region ?_ | refine L.nil ?_ | refine D.seq ?_ | refine L.move (k := ?_) | refine L.cm (c := ?_) | refine L.loadA 0 (c := ?_) | refine C.no (h1 := ?_) | refine L.not (c := ?_) | refine C.exit ?_ | refine D.thenExit ?_ | refine D.blkExit ?_ | refine D.seqR (h := ?_) | refine L.lenR hG.sl (c := ?_) | refine L.callQ kP (hpre := fun w1 hw => ⟨⟨hr.1.1.at hw, hr.1.2.at hw⟩, hr.2.at hw, own [] _ _ w1 hw⟩) (k := ?_))
    obtain ⟨_, h0, h64, h32, hno, hh, hrf⟩ := check_ok hck
    have hPub := pub_ok hck hm hsr
    cases hro : rowsM bs rs with
    | false =>
      rw [hro] at kRo
      repeat' (first | refine C.seq ?_ | refine C.region ?_ | refine L.nil ?_ | refine D.seq ?_ | refine L.move (k := ?_) | refine L.assign (k := ?_) | refine L.loadA 0 (c := ?_) | refine C.yes (h1 := ?_) | refine L.not (c := ?_) | refine C.ret ?_ | refine D.thenRet ?_ | refine L.callQ kRo (hpre := fun w1 hw => ⟨hr.1.1.at hw, hr.2.at hw⟩) (k := ?_))
      (refine D.ret (vs := [_]) (RV.tmp rfl RV.nil) ?_; intro w' hw; exact Post.mk (is := []) hw List.nodup_nil rfl ⟨rfl, rfl⟩)
    | true =>
    have hrb : rowsM bs (rwsOf ls ys) = true := by rw [hT.rows, hro]
    repeat' (first | refine C.seq ?_ | refine C.region ?_ | refine D.seq ?_ | refine L.move (k := ?_) | refine L.loadA 0 (c := ?_) | refine C.no (h1 := ?_) | refine C.skip ?_)
    refine L.callP [] (run12_S regs vb vo v bs os rs) (hpre := fun w1 hw => ⟨⟨hr.1.1.at hw, hr.1.2.at hw⟩, hr.2.at hw⟩) (k := ?_)
    intro u1 B1 hu1
    rw [hdrop_nil]
    unfold run12R at hu1
    rw [if_neg (by omega), if_neg (by omega), if_neg (by rw [hro]; simp)] at hu1
    obtain ⟨n1, x1, h1, go1, g1, d1⟩ := hu1
    obtain ⟨le1, bl1, sm1⟩ := run_end hck hPub (by omega) hro go1
    have fin : ∀ (u2 : Value) (B2 : Hp), run12R regs bs os (rwsOf ls ys) u2 B2 → ∃ (x2 : RS × Bool) (h2 : HG), x1.2 = x2.2 ∧ NI bs m x1.1 x2.1 ∧ RunG x2.1 h2 ∧ x2.1.bufs.length = bs.length ∧ (∀ k, (bufAt x2.1 k).length ≤ 65536) ∧
        ((x2.2 = true ∧ u2 = shut [osV x2.1.bufs.length h2.y, osV x2.1.l.length h2.ly, .int .i64 0] ∧ B2 = osC 47 h2.y [] ++ (rowsHp h2.ys ++ osC 55 h2.ly [])) ∨
         (x2.2 = false ∧ u2 = shut [nilV, osV x2.1.l.length h2.ly, .int .i64 11] ∧ B2 = osC 55 h2.ly [])) := by
      intro u2 B2 hu2
      unfold run12R at hu2
      rw [if_neg (by omega), if_neg (by omega), if_neg (by rw [hrb]; simp)] at hu2
      obtain ⟨n2, x2, h2, go2, g2, d2⟩ := hu2
      obtain ⟨le2, bl2, sm2⟩ := run_end hck hPub (by omega) hrb go2
      obtain ⟨e1, e2⟩ := two_runs hPub hT hro hh go1 go2
      exact ⟨x2, h2, e1, e2, g2, bl2, sm2, d2⟩
    rcases d1 with ⟨ok1, rfl, rfl⟩ | ⟨ok1, rfl, rfl⟩
    · unfold shut
      repeat' (first | refine C.seq ?_ | refine C.region ?_ | refine L.nil ?_ | refine D.seq ?_ | refine L.move (k := ?_) | refine L.assign (k := ?_) | refine L.extract (c := ?_))
      refine L.perm (M' := (pb, ob [.int .i64 regs, vb, vo] 25) :: ((osC 47 h1.y [] ++ (rowsHp h1.ys ++ osC 55 h1.ly [])) ++ (osC 47 y [] ++ rowsHp ys))) (List.perm_middle.symm) ?_
      repeat' (first | refine L.move (k := ?_) | refine L.loadA 0 (c := ?_))
      refine L.callP [] (run12_S regs vb vo (osV rs.length y) bs os (rwsOf ls ys)) (hpre := fun w1 hw => ⟨⟨hr.1.1.at hw, hr.1.2.at hw⟩, own_rdR hR hll hGV hw (fun x hx => by simp [hx]) (fun x hx => by simp [hx])⟩) (k := ?_)
      intro u2 B2 hu2
      rw [hdrop_nil]
      obtain ⟨x2, h2, e2, hNI, g2, bl2, sm2, d2⟩ := fin u2 B2 hu2
      rcases d2 with ⟨ok2, rfl, rfl⟩ | ⟨ok2, _, _⟩
      · unfold shut
        refine L.base _ (M' := []) (List.append_nil _).symm (fun w2 hw2 => ?_)
        have pbO := Old.own (hw2.holds (pb, ob [.int .i64 regs, vb, vo] 25) (by simp)) (A := []) (by simp) _ List.take_length
        have rE1 : Rd w2 [] (osV x1.1.l.length h1.ly) x1.1.l.length (x1.1.l.flatMap encE) := g1.l.rdm (T := 55) hw2 (fun x hx => by simp [hx])
        have rE2 : Rd w2 [] (osV x2.1.l.length h2.ly) x2.1.l.length (x2.1.l.flatMap encE) := g2.l.rdm (T := 55) hw2 (fun x hx => by simp [hx])
        have rR1 := own_rdR g1.b rfl g1.y hw2 (fun x hx => by simp [hx]) (fun x hx => by simp [hx])
        have rR2 := own_rdR g2.b rfl g2.y hw2 (fun x hx => by simp [hx]) (fun x hx => by simp [hx])
        have rB := hr.1.1.at hw2
        have kE := sameE_S (osV x1.1.l.length h1.ly) (osV x2.1.l.length h2.ly) x1.1.l x2.1.l (by omega)
        rw [decide_eq_true hNI.l] at kE
        have sX1 := rR1.1.1
        have sX2 := rR2.1.1
        rw [rwsOf_len g1.b.1] at sX1
        rw [rwsOf_len g2.b.1] at sX2
        have z1 : cm .neq (0 : Int) 0 = false := rfl
        have z2 : cm .neq (x1.1.bufs.length : Int) x2.1.bufs.length = false := cm_ne' (by rw [bl1, bl2])
        repeat' (first | refine C.seq ?_ | refine C.region ?_ | refine L.nil ?_ | refine D.seq ?_ | refine L.move (k := ?_) | refine L.assign (k := ?_) | refine L.cm (c := ?_) | refine L.extract (c := ?_) | refine C.no (h1 := ?_) | refine L.pickF (k := ?_) | refine L.want (k := ?_) | refine L.not (c := ?_) | refine C.block ?_ | refine C.skip ?_ | refine D.seqR (h := ?_) | refine L.callQ kE (hpre := fun w1 hw => ⟨rE1.at hw, rE2.at hw⟩) (k := ?_) | refine L.lenR sX1 (c := ?_) | refine L.lenR sX2 (c := ?_))
        refine C.loop (α := Nat) (fun i => i ≤ bs.length) (fun i => [(3, .pointer (some ⟨pb, 0, none⟩)), (12, osV x1.1.bufs.length h1.y), (15, osV x2.1.bufs.length h2.y), (18, .int .i64 i)]) (fun _ => []) (fun i => bs.length - i) 0 (fun a w hs => hs.lessE rfl (lk_cons rfl (lk_cons rfl (lk_cons rfl (lk_cons rfl (fun _ _ h => lk_nil h)))))) (Nat.zero_le _) ?_
        intro j hj
        rcases Nat.lt_or_ge j bs.length with hj2 | hge2
        · have k1' : cm .lss (j : Int) x1.1.bufs.length = true := cm_lo (by omega)
          have k2' : ar .add .i64 (j : Int) 1 = ((j + 1 : Nat) : Int) := wrap_nat (by omega)
          obtain ⟨b, hb⟩ : ∃ b, bs[j]? = some b := ⟨_, List.getElem?_eq_getElem hj2⟩
          obtain ⟨r1, hr1⟩ : ∃ r, x1.1.bufs[j]? = some r := ⟨_, List.getElem?_eq_getElem (by omega)⟩
          obtain ⟨r2, hr2⟩ : ∃ r, x2.1.bufs[j]? = some r := ⟨_, List.getElem?_eq_getElem (by omega)⟩
          obtain ⟨y1, hy1⟩ : ∃ r, h1.ys[j]? = some r := ⟨_, List.getElem?_eq_getElem (by rw [g1.b.1]; omega)⟩
          obtain ⟨y2, hy2⟩ : ∃ r, h2.ys[j]? = some r := ⟨_, List.getElem?_eq_getElem (by rw [g2.b.1]; omega)⟩
          have hq1 := rwsOf_at hr1 hy1
          have hq2 := rwsOf_at hr2 hy2
          have oX1 := rR1.1.2 (by rw [rwsOf_len g1.b.1]; omega)
          have oX2 := rR2.1.2 (by rw [rwsOf_len g2.b.1]; omega)
          have rr1 := rR1.2 _ (List.mem_of_getElem? hq1)
          have rr2 := rR2.2 _ (List.mem_of_getElem? hq2)
          have o1 := rB.2 (by omega)
          obtain ⟨q0, q1, q2⟩ := b_at hb
          have b1 : bufAt x1.1 j = r1 := by unfold bufAt; rw [Int.toNat_natCast, hr1]; rfl
          have b2 : bufAt x2.1 j = r2 := by unfold bufAt; rw [Int.toNat_natCast, hr2]; rfl
          have hs1 := sm1 j
          rw [b1] at hs1
          have kU := sameU_S (osV r1.length y1) (osV r2.length y2) r1 r2 (by omega)
          have hl1 : j < x1.1.bufs.length := by omega
          have hl2 : j < x2.1.bufs.length := by omega
          cases hsec : b.sec with
          | true =>
            rw [hsec] at q2
            repeat' (first | refine C.seq ?_ | refine C.region ?_ | refine L.nil ?_ | refine D.seq ?_ | refine L.move (k := ?_) | refine L.assign (k := ?_) | refine L.cm (c := ?_) | refine L.ar (c := ?_) | refine L.fieldAddr (c := ?_) | refine C.yes (h1 := ?_) | refine C.no (h1 := ?_) | refine L.pickF (k := ?_) | refine L.pass (k := ?_) | refine L.not (c := ?_) | refine C.block ?_ | refine D.blkNormal ?_ | refine C.skip ?_ | exact D.endsQ | refine QL.fin ?_ | (refine QL.step (v := ?_) (by exact rfl) (by exact rfl) ?_ ?_; rotate_left) | refine C.quiet (h := ?_) | refine L.lenR sX1 (c := ?_) | refine L.loadF pbO (i := 1) rfl (c := ?_) | refine L.indexR s1 hj2 (c := ?_) | refine L.loadF o1 q2 (c := ?_))
            exact D.then_ fun a1 w1 hs => ⟨j + 1, by omega, by omega, hs.lessE rfl (lk_cons rfl (lk_cons rfl (lk_cons rfl (lk_cons rfl (fun _ _ h => lk_nil h)))))⟩
          | false =>
            rw [hsec] at q2
            have hrr : r1 = r2 := by
              have := hNI.b j (by unfold bAt; rw [Int.toNat_natCast, hb]; exact hsec)
              rw [b1, b2] at this; exact this
            rw [decide_eq_true hrr] at kU
            repeat' (first | refine C.seq ?_ | refine C.region ?_ | refine L.nil ?_ | refine D.seq ?_ | refine L.move (k := ?_) | refine L.assign (k := ?_) | refine L.cm (c := ?_) | refine L.ar (c := ?_) | refine L.fieldAddr (c := ?_) | refine C.yes (h1 := ?_) | refine C.no (h1 := ?_) | refine L.pickT (k := ?_) | refine L.want (k := ?_) | refine L.not (c := ?_) | refine C.block ?_ | refine D.blkNormal ?_ | refine C.skip ?_ | exact D.endsQ | refine QL.fin ?_ | (refine QL.step (v := ?_) (by exact rfl) (by exact rfl) ?_ ?_; rotate_left) | refine C.quiet (h := ?_) | refine L.lenR sX1 (c := ?_) | refine L.loadF pbO (i := 1) rfl (c := ?_) | refine L.indexR s1 hj2 (c := ?_) | refine L.loadF o1 q2 (c := ?_) | refine L.indexR sX1 hl1 (c := ?_) | refine L.indexR sX2 hl2 (c := ?_) | refine L.loadF oX1 (enc_at (enc := Prod.fst) hq1) (c := ?_) | refine L.loadF oX2 (enc_at (enc := Prod.fst) hq2) (c := ?_) | refine L.callQ kU (hpre := fun w1 hw => ⟨rr1.at hw, rr2.at hw⟩) (k := ?_))
            exact D.then_ fun a1 w1 hs => ⟨j + 1, by omega, by omega, hs.lessE rfl (lk_cons rfl (lk_cons rfl (lk_cons rfl (lk_cons rfl (fun _ _ h => lk_nil h)))))⟩
        · have k1' : cm .lss (j : Int) x1.1.bufs.length = false := cm_lo' (by omega)
          repeat' (first | refine C.seq ?_ | refine C.region ?_ | refine L.nil ?_ | refine D.seq ?_ | refine L.move (k := ?_) | refine L.assign (k := ?_) | refine L.cm (c := ?_) | refine C.no (h1 := ?_) | refine C.ret ?_ | refine C.exit ?_ | refine D.thenExit ?_ | refine D.blkExit ?_ | refine L.lenR sX1 (c := ?_))
          (refine D.ret (vs := [_]) (RV.tmp rfl RV.nil) ?_; intro w' hw; exact Post.mkD 0 (At.back (at_nilr hw2) hw) rfl ⟨rfl, rfl⟩)
      · rw [ok1, ok2] at e2; cases e2
    · unfold shut
      repeat' (first | refine C.seq ?_ | refine C.region ?_ | refine L.nil ?_ | refine D.seq ?_ | refine L.move (k := ?_) | refine L.assign (k := ?_) | refine L.extract (c := ?_))
      refine L.perm (M' := (pb, ob [.int .i64 regs, vb, vo] 25) :: (osC 55 h1.ly [] ++ (osC 47 y [] ++ rowsHp ys))) (List.perm_middle.symm) ?_
      repeat' (first | refine L.move (k := ?_) | refine L.loadA 0 (c := ?_))
      refine L.callP [] (run12_S regs vb vo (osV rs.length y) bs os (rwsOf ls ys)) (hpre := fun w1 hw => ⟨⟨hr.1.1.at hw, hr.1.2.at hw⟩, own_rdR hR hll hGV hw (fun x hx => by simp [hx]) (fun x hx => by simp [hx])⟩) (k := ?_)
      intro u2 B2 hu2
      rw [hdrop_nil]
      obtain ⟨x2, h2, e2, hNI, g2, bl2, sm2, d2⟩ := fin u2 B2 hu2
      rcases d2 with ⟨ok2, _, _⟩ | ⟨ok2, rfl, rfl⟩
      · rw [ok1, ok2] at e2; cases e2
      · unfold shut
        refine L.base _ (M' := []) (List.append_nil _).symm (fun w2 hw2 => ?_)
        have rE1 : Rd w2 [] (osV x1.1.l.length h1.ly) x1.1.l.length (x1.1.l.flatMap encE) := g1.l.rdm (T := 55) hw2 (fun x hx => by simp [hx])
        have rE2 : Rd w2 [] (osV x2.1.l.length h2.ly) x2.1.l.length (x2.1.l.flatMap encE) := g2.l.rdm (T := 55) hw2 (fun x hx => by simp [hx])
        have kE := sameE_S (osV x1.1.l.length h1.ly) (osV x2.1.l.length h2.ly) x1.1.l x2.1.l (by omega)
        rw [decide_eq_true hNI.l] at kE
        have z1 : cm .neq (11 : Int) 11 = false := rfl
        have sN : SlV nilV 0 := SlV.nil
        have z2 : cm .neq ((0 : Nat) : Int) ((0 : Nat) : Int) = false := rfl
        have z3 : cm .lss (0 : Int) ((0 : Nat) : Int) = false := rfl
        repeat' (first | refine C.seq ?_ | refine C.region ?_ | refine L.nil ?_ | refine D.seq ?_ | refine L.move (k := ?_) | refine L.assign (k := ?_) | refine L.cm (c := ?_) | refine L.extract (c := ?_) | refine C.no (h1 := ?_) | refine L.pickF (k := ?_) | refine L.want (k := ?_) | refine L.not (c := ?_) | refine L.lenV (c := ?_) | refine C.block ?_ | refine C.skip ?_ | refine D.seqR (h := ?_) | refine L.callQ kE (hpre := fun w1 hw => ⟨rE1.at hw, rE2.at hw⟩) (k := ?_) | refine L.lenR sN (c := ?_))
        refine C.loop (α := Unit) (fun _ => True) (fun _ => [(12, nilV), (18, .int .i64 0)]) (fun _ => []) (fun _ => 0) () (fun a w hs => hs.lessE rfl (lk_cons rfl (lk_cons rfl (fun _ _ h => lk_nil h)))) trivial ?_
        rintro _ _
        repeat' (first | refine C.seq ?_ | refine C.region ?_ | refine L.nil ?_ | refine D.seq ?_ | refine L.move (k := ?_) | refine L.assign (k := ?_) | refine L.cm (c := ?_) | refine C.no (h1 := ?_) | refine L.lenV (c := ?_) | refine C.ret ?_ | refine C.exit ?_ | refine D.thenExit ?_ | refine D.blkExit ?_ | refine L.lenR sN (c := ?_))
        (refine D.ret (vs := [_]) (RV.tmp rfl RV.nil) ?_; intro w' hw; exact Post.mkD 0 (At.back (at_nilr hw2) hw) rfl ⟨rfl, rfl⟩)
end Go.Proofs.Ytkjlgapkcdcmgaa
