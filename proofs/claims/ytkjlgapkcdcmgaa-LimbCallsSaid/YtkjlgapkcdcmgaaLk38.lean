/- keysmithref12.Run. -/
import Derived.Test.YtkjlgapkcdcmgaaLk36
import Derived.Test.YtkjlgapkcdcmgaaLk37
set_option linter.unusedVariables false
set_option linter.unusedSimpArgs false
namespace Go.Proofs.Ytkjlgapkcdcmgaa
open Go Go.RowKit SL
attribute [local irreducible] SL.L SL.C SL.D SL.N SL.H SL.QL SL.QW SL.QP

set_option maxRecDepth 100000 in
set_option maxHeartbeats 8000000 in
theorem run12_S (regs : Int) (vb vo v : Value) (bs : List Bf) (os : List Lop) (rs : Rws) : Ctr Try.prog 27 [progV regs vb vo, v] []
    (fun w => (Rd w [] vb bs.length (bs.flatMap encB) ∧ Rd w [] vo os.length (os.flatMap encO)) ∧ RdR w [] v rs) (run12R regs bs os rs) := by
  refine Ctr.enter Try.func27 Try.ntmps27 rfl rfl (fun w hr => ?_)
  have s1 := hr.1.1.1
  have s2 := hr.1.2.1
  have sv := hr.2.1.1
  unfold progV
  repeat' (first | refine C.seq ?_ | refine C.region ?_ | refine L.nil ?_ | refine D.seq ?_ | refine L.assign (k := ?_) | refine L.loadA 0 (c := ?_) | refine L.box (c := fun _ => ?_))
  rename_i pb
  refine L.callP [] (rcheck_S regs vb vo bs os) (hpre := fun w hw => ⟨hr.1.1.at hw, hr.1.2.at hw⟩) (k := ?_)
  rintro u0 B0 ⟨rfl, rfl⟩
  rw [hdrop_nil]
  unfold shut
  rw [List.nil_append]
  have kS := steps12_S regs vb vo bs os
  have kR := fun hbl => rrows_S regs vb vo v bs rs hbl
  by_cases he : (checkM regs bs os).2 ≠ 0
  · have c1 : cm .eql (checkM regs bs os).2 0 = false := cm_no he
    have c2 : cm .neq (checkM regs bs os).2 0 = true := cm_ne he
    repeat' (first | refine C.seq ?_ | refine C.region ?_ | refine L.nil ?_ | refine D.seq ?_ | refine L.move (k := ?_) | refine L.assign (k := ?_) | refine L.cm (c := ?_) | refine L.extract (c := ?_) | refine C.yes (h1 := ?_) | refine C.no (h1 := ?_) | refine L.pickF (k := ?_) | refine L.pass (k := ?_) | refine C.ret ?_ | refine D.thenRet ?_ | refine C.skip ?_)
    (refine D.ret (vs := [_, _, _]) (RV.tmp rfl (RV.tmp rfl (RV.tmp rfl RV.nil))) ?_; intro w' hw; exact Post.mk (is := []) hw List.nodup_nil rfl (by unfold run12R; rw [if_pos he]; exact ⟨rfl, rfl⟩))
  replace he : (checkM regs bs os).2 = 0 := by omega
  have c1 : cm .eql (checkM regs bs os).2 0 = true := cm_yes he
  have c1' : cm .neq (checkM regs bs os).2 0 = false := cm_ne' he
  obtain ⟨_, h0, h64, h32, hno, hh, hrf⟩ := check_ok he
  have kS := steps12_S regs vb vo bs os
  have hsr : stepsR regs bs os = stepsM os := by unfold stepsR; rw [if_pos he]
  rw [hsr] at kS
  have d10 : cm .eql (10 : Int) 0 = false := rfl
  have n10 : cm .neq (10 : Int) 0 = true := rfl
  have d2 : cm .neq (2 : Int) 0 = true := rfl
  by_cases hst : 16777216 < stepsM os
  · have c2 : cm .gtr (stepsM os) 16777216 = true := cm_gt hst
    repeat' (first | refine C.seq ?_ | refine C.region ?_ | refine L.nil ?_ | refine D.seq ?_ | refine L.move (k := ?_) | refine L.assign (k := ?_) | refine L.cm (c := ?_) | refine L.loadA 0 (c := ?_) | refine L.extract (c := ?_) | refine C.yes (h1 := ?_) | refine C.no (h1 := ?_) | refine L.pickT (k := ?_) | refine L.pickF (k := ?_) | refine L.want (k := ?_) | refine L.pass (k := ?_) | refine C.ret ?_ | refine D.thenRet ?_ | refine C.skip ?_ | refine L.callQ kS (hpre := fun w hw => ⟨hr.1.1.at hw, hr.1.2.at hw⟩) (k := ?_))
    (refine D.ret (vs := [_, _, _]) (RV.tmp rfl (RV.tmp rfl (RV.tmp rfl RV.nil))) ?_; intro w' hw; exact Post.mk (is := []) hw List.nodup_nil rfl (by unfold run12R; rw [if_neg (by omega), if_pos hst]; exact ⟨rfl, rfl⟩))
  have c2 : cm .gtr (stepsM os) 16777216 = false := cm_gt' (by omega)
  have kR := rrows_S regs vb vo v bs rs (by omega)
  cases hro : rowsM bs rs with
  | false =>
    rw [hro] at kR
    repeat' (first | refine C.seq ?_ | refine C.region ?_ | refine L.nil ?_ | refine D.seq ?_ | refine L.move (k := ?_) | refine L.assign (k := ?_) | refine L.cm (c := ?_) | refine L.loadA 0 (c := ?_) | refine L.extract (c := ?_) | refine C.yes (h1 := ?_) | refine C.no (h1 := ?_) | refine L.pickT (k := ?_) | refine L.want (k := ?_) | refine L.not (c := ?_) | refine C.ret ?_ | refine D.thenRet ?_ | refine C.skip ?_ | refine L.callQ kS (hpre := fun w hw => ⟨hr.1.1.at hw, hr.1.2.at hw⟩) (k := ?_) | refine L.callQ kR (hpre := fun w hw => ⟨hr.1.1.at hw, hr.2.at hw⟩) (k := ?_))
    (refine D.ret (vs := [_, _, _]) (RV.tmp rfl (RV.tmp rfl (RV.tmp rfl RV.nil))) ?_; intro w' hw; exact Post.mk (is := []) hw List.nodup_nil rfl (by unfold run12R; rw [if_neg (by omega), if_neg hst, if_pos hro]; exact ⟨rfl, rfl⟩))
  | true =>
  rw [hro] at kR
  obtain ⟨hrl, hok⟩ := rows_ok hro
  have hsz := buf_size hh
  repeat' (first | refine C.make [(pb, ob [.int .i64 regs, vb, vo] 25)] (by kernel_rfl) (h := ?_) | refine C.seq ?_ | refine C.region ?_ | refine L.nil ?_ | refine D.seq ?_ | refine L.move (k := ?_) | refine L.assign (k := ?_) | refine L.cm (c := ?_) | refine L.loadA 0 (c := ?_) | refine L.extract (c := ?_) | refine C.no (h1 := ?_) | refine L.pickT (k := ?_) | refine L.want (k := ?_) | refine L.not (c := ?_) | refine C.skip ?_ | refine L.callQ kS (hpre := fun w hw => ⟨hr.1.1.at hw, hr.1.2.at hw⟩) (k := ?_) | refine L.callQ kR (hpre := fun w hw => ⟨hr.1.1.at hw, hr.2.at hw⟩) (k := ?_))
  have hreg : regs = (regs.toNat : Int) := by omega
  iterate 3 ((refine QP.quiet (v := ?_) (by exact rfl) (by exact rfl) (fun w1 g1 => ?_) ?_; rotate_left); repeat (first | refine L.nil ?_ | refine L.fieldAddr (c := ?_) | refine L.load1 0 (c := ?_) | refine L.loadA 0 (c := ?_) | exact D.endsQ))
  refine QP.mk0 [] (fun F B => ∃ nb, F = [(43, .slice (some ⟨nb, 0, none⟩) regs.toNat regs.toNat)] ∧ B = [(nb, ob (List.replicate regs.toNat (.int .u64 0)) 37)]) (h := fun w1 g1 => ?_) (k := ?_)
  · rw [List.nil_append]
    refine L.makeZ (m := regs.toNat) hreg (by omega) (by unfold maxLen; omega) (c := fun nb => ?_)
    refine L.nil ?_
    exact D.endsP1 [_] (hR := ⟨_, rfl, rfl⟩)
  refine QP.mk1 3 [] (fun F B => ∃ nb, F = [(44, .agg #[.int .i64 regs, vb, vo, .slice (some ⟨nb, 0, none⟩) regs.toNat regs.toNat, nilV, nilV])] ∧ B = [(nb, ob (List.replicate regs.toNat (.int .u64 0)) 37)]) (h := ?_) (k := ?_)
  · rintro F B ⟨nb, rfl, rfl⟩ w1 g1
    repeat (first | refine L.nil ?_ | refine L.build (c := ?_))
    exact D.endsP1 [_] (hR := ⟨_, rfl, rfl⟩)
  refine QP.mk1 4 [] (fun F B => ∃ xb nb, F = [(45, .pointer (some ⟨xb, 0, none⟩))] ∧ B = [(xb, ob [.int .i64 regs, vb, vo, .slice (some ⟨nb, 0, none⟩) regs.toNat regs.toNat, nilV, nilV] 88), (nb, ob (List.replicate regs.toNat (.int .u64 0)) 37)]) (h := ?_) (k := ?_)
  · rintro F B ⟨nb, rfl, rfl⟩ w1 g1
    repeat (first | refine L.nil ?_ | refine L.box (c := fun _ => ?_))
    exact D.endsP1 [_, _] (hR := ⟨_, _, rfl, rfl⟩)
  refine QP.mk1 5 [] (fun F B => ∃ xb nb, F = [(9, .pointer (some ⟨xb, 0, none⟩))] ∧ B = [(xb, ob [.int .i64 regs, vb, vo, .slice (some ⟨nb, 0, none⟩) regs.toNat regs.toNat, nilV, nilV] 88), (nb, ob (List.replicate regs.toNat (.int .u64 0)) 37)]) (h := ?_) (k := ?_)
  · rintro F B ⟨xb, nb, rfl, rfl⟩ w1 g1
    repeat (first | refine L.nil ?_ | refine L.assign (k := ?_))
    exact D.endsP1 [_, _] (hR := ⟨_, _, rfl, rfl⟩)
  refine QP.fin1 [none, none, none, some [], some [3], some [4], some [5]] 6 (nds := [[], [], [], [], [], [], []]) (hM := List.Perm.refl _) (k := ?_)
  rintro F B ⟨xb, nb, rfl, rfl⟩
  simp only [List.cons_append, List.nil_append]
  repeat' (first | refine C.seq ?_ | refine C.region ?_ | refine L.nil ?_ | refine D.seq ?_ | refine L.assign (k := ?_) | refine C.block ?_ | refine D.seqR (h := ?_))
  have hbl : (initB bs rs).length = bs.length := initB_len hrl
  refine C.perm (M' := (xb, ob [.int .i64 regs, vb, vo, .slice (some ⟨nb, 0, none⟩) regs.toNat regs.toNat, nilV, nilV] 88) :: (pb, ob [.int .i64 regs, vb, vo] 25) :: (nb, ob (List.replicate regs.toNat (.int .u64 0)) 37) :: []) (List.Perm.cons _ (List.Perm.swap _ _ _)) ?_
  refine C.loop (α := Nat × OS × List OS) (fun z => z.1 ≤ bs.length ∧ rowsG ((initB bs rs).take z.1) z.2.2 ∧ osG 1 z.1 (rowsV ((initB bs rs).take z.1) z.2.2) z.2.1)
    (fun z => [(1, v), (2, .pointer (some ⟨pb, 0, none⟩)), (9, .pointer (some ⟨xb, 0, none⟩)), (10, .int .i64 z.1)])
    (fun z => (xb, ob [.int .i64 regs, vb, vo, .slice (some ⟨nb, 0, none⟩) regs.toNat regs.toNat, osV z.1 z.2.1, nilV] 88) :: (pb, ob [.int .i64 regs, vb, vo] 25) :: (nb, ob (List.replicate regs.toNat (.int .u64 0)) 37) :: (osC 47 z.2.1 [] ++ rowsHp z.2.2)) (fun z => bs.length - z.1) (0, none, []) (fun a w hs => ?_) ?_ ?_
  · exact hs.lessE rfl (lk_cons rfl (lk_cons rfl (lk_cons rfl (lk_cons rfl (fun _ _ h => lk_nil h)))))
  · exact ⟨Nat.zero_le _, ⟨rfl, fun i l y h => by simp at h⟩, osG.nil⟩
  · rintro ⟨i, y, ys⟩ ⟨hi, hR, hG⟩
    simp only at hi hR hG ⊢
    have hyl : ys.length = i := by rw [hR.1]; simp; omega
    rcases Nat.lt_or_ge i bs.length with hlt | hge
    · have k1 : cm .lss (i : Int) rs.length = true := cm_lo (by omega)
      have k2 : ar .add .i64 (i : Int) 1 = ((i + 1 : Nat) : Int) := wrap_nat (by omega)
      obtain ⟨b, hb⟩ : ∃ b, bs[i]? = some b := ⟨_, List.getElem?_eq_getElem hlt⟩
      obtain ⟨r, hy⟩ : ∃ r, rs[i]? = some r := ⟨_, List.getElem?_eq_getElem (by omega)⟩
      have hlv : i < rs.length := by omega
      have o1 := hr.1.1.2 (by omega)
      have o2 := hr.2.1.2 (by omega)
      have hrr := hr.2.2 r (List.mem_of_getElem? hy)
      obtain ⟨q0, q1, q2⟩ := b_at hb
      have hbz := hsz b (List.mem_of_getElem? hb)
      have hle := okRow_le (hok i b r hb hy) hbz.1
      have hbi : b.size = (b.size.toNat : Int) := by omega
      repeat' (first | refine C.seq ?_ | refine C.region ?_ | refine L.nil ?_ | refine D.seq ?_ | refine L.move (k := ?_) | refine L.assign (k := ?_) | refine L.cm (c := ?_) | refine L.fieldAddr (c := ?_) | refine L.load1 1 (c := ?_) | refine C.yes (h1 := ?_) | refine C.block ?_ | refine C.skip ?_ | refine L.lenR sv (c := ?_) | refine L.indexR s1 hlt (c := ?_) | refine L.loadF o1 q0 (c := ?_) | refine L.makeZ (m := b.size.toNat) hbi (by omega) (by unfold maxLen; omega) (c := fun rb => ?_) | refine L.indexR sv hlv (c := ?_) | refine L.loadF o2 (enc_at (enc := Prod.fst) hy) (c := ?_))
      have hones : (r.2.map u64).all oneB = true := by simp [oneB]
      have hsetl : setL (List.replicate b.size.toNat (.int .u64 0)) 0 (r.2.map u64) = (initRow b r.2).map u64 := initRow_map hle
      refine L.copyK 0 (hi := rfl) (fun w hw => hrr.at hw) (by simp) hones hle (by simp) (M' := (rb, ob ((initRow b r.2).map u64) 37) :: (xb, ob [.int .i64 regs, vb, vo, .slice (some ⟨nb, 0, none⟩) regs.toNat regs.toNat, osV i y, nilV] 88) :: (pb, ob [.int .i64 regs, vb, vo] 25) :: (nb, ob (List.replicate regs.toNat (.int .u64 0)) 37) :: (osC 47 y [] ++ rowsHp ys)) (hM := by simp only [hset, hsetl]) (c := ?_)
      repeat' (first | refine C.region ?_ | refine L.nil ?_ | refine D.seq ?_ | refine L.move (k := ?_) | refine L.fieldAddr (c := ?_) | refine L.load1 1 (c := ?_) | refine L.nilCheck (k := ?_) | refine L.buildS (c := fun _ => ?_))
      rename_i tb
      have hil := initRow_len hle
      have hyi : osG 1 (initRow b r.2).length ((initRow b r.2).map u64) (some (rb, (initRow b r.2).map u64, b.size.toNat)) := ⟨by rw [List.length_map, hil, Nat.mul_one], by omega, by unfold maxLen; omega, by rw [Nat.mul_one, List.take_of_length_le (by simp)]⟩
      have hB1 : (initB bs rs).take (i + 1) = (initB bs rs).take i ++ [initRow b r.2] := by rw [List.take_add_one, initB_at hb hy]; rfl
      have h46 : 4 < [(.int .i64 regs : Value), vb, vo, .slice (some ⟨nb, 0, none⟩) regs.toNat regs.toNat, osV i y, nilV].length := by simp
      refine L.appendU [(tb, ob [.slice (some ⟨rb, 0, none⟩) b.size.toNat b.size.toNat] 47), (rb, ob ((initRow b r.2).map u64) 37), (xb, ob [.int .i64 regs, vb, vo, .slice (some ⟨nb, 0, none⟩) regs.toNat regs.toNat, osV i y, nilV] 88), (pb, ob [.int .i64 regs, vb, vo] 25), (nb, ob (List.replicate regs.toNat (.int .u64 0)) 37)] (L2 := rowsHp ys) (u := .slice (some ⟨tb, 0, none⟩) 1 1) (k := 1) (news := [.slice (some ⟨rb, 0, none⟩) b.size.toNat b.size.toNat]) hG (by rw [osC_app 47 y (rowsHp ys)]; rfl) (fun w hw => Rd.own (hw.holds _ List.mem_cons_self) (by simp) (Nat.le_refl _) 1 rfl) rfl (by intro u hu; simp at hu; subst hu; rfl) (by unfold maxLen; omega) (by omega) (c := fun y2 hG2 _ => ?_)
      repeat' (first | refine L.storeK 2 h46 rfl (hc := osV_cells _ _) (h1 := oneB_os _ _) (hM := rfl) (c := ?_) | refine C.region ?_ | refine L.nil ?_ | refine D.seq ?_ | refine L.move (k := ?_) | refine L.assign (k := ?_) | refine L.ar (c := ?_) | refine L.fieldAddr (c := ?_) | refine L.nilCheck (k := ?_) | refine D.blkNormal ?_)
      refine D.perm (M' := (tb, ob [.slice (some ⟨rb, 0, none⟩) b.size.toNat b.size.toNat] 47) :: (xb, ob [.int .i64 regs, vb, vo, .slice (some ⟨nb, 0, none⟩) regs.toNat regs.toNat, osV (i + 1) y2, nilV] 88) :: (pb, ob [.int .i64 regs, vb, vo] 25) :: (nb, ob (List.replicate regs.toNat (.int .u64 0)) 37) :: (osC 47 y2 [] ++ rowsHp (ys ++ [some (rb, (initRow b r.2).map u64, b.size.toNat)]))) ?_ ?_
      · rw [show rowsHp (ys ++ [some (rb, (initRow b r.2).map u64, b.size.toNat)]) = rowsHp ys ++ [(rb, ob ((initRow b r.2).map u64) 37)] by simp [rowsHp, osC]]
        show List.Perm _ ((tb, ob [.slice (some ⟨rb, 0, none⟩) b.size.toNat b.size.toNat] 47) :: (rb, ob ((initRow b r.2).map u64) 37) :: (xb, ob [.int .i64 regs, vb, vo, .slice (some ⟨nb, 0, none⟩) regs.toNat regs.toNat, osV (i + 1) y2, nilV] 88) :: (pb, ob [.int .i64 regs, vb, vo] 25) :: (nb, ob (List.replicate regs.toNat (.int .u64 0)) 37) :: osC 47 y2 (rowsHp ys))
        rw [osC_app 47 y2 (rowsHp ys)]
        exact perm_by (fun k => match k with | 0 => [(tb, ob [.slice (some ⟨rb, 0, none⟩) b.size.toNat b.size.toNat] 47)] | 1 => [(rb, ob ((initRow b r.2).map u64) 37)] | 2 => [(xb, ob [.int .i64 regs, vb, vo, .slice (some ⟨nb, 0, none⟩) regs.toNat regs.toNat, osV (i + 1) y2, nilV] 88), (pb, ob [.int .i64 regs, vb, vo] 25), (nb, ob (List.replicate regs.toNat (.int .u64 0)) 37)] | 3 => osC 47 y2 [] | _ => rowsHp ys) [0, 2, 3, 4, 1] [0, 1, 2, 3, 4] (by simp) (by simp)
      refine D.then_ fun a1 w1 hs => ⟨(i + 1, y2, ys ++ [some (rb, (initRow b r.2).map u64, b.size.toNat)]), ⟨by omega, ?_, ?_⟩, by simp only; omega, hs.lessD 1 rfl (lk_cons rfl (lk_cons rfl (lk_cons rfl (lk_cons rfl (fun _ _ h => lk_nil h)))))⟩
      · rw [hB1]; exact rowsG_snoc hR hyi
      · rw [hB1]; simp only; rw [rowsV_snoc hR.1, hil]; exact hG2
    · have k1 : cm .lss (i : Int) rs.length = false := cm_lo' (by omega)
      have hil : i = bs.length := by omega
      subst hil
      rw [List.take_of_length_le (by omega)] at hR hG
      repeat' (first | refine C.seq ?_ | refine C.region ?_ | refine L.nil ?_ | refine D.seq ?_ | refine L.move (k := ?_) | refine L.cm (c := ?_) | refine L.loadA 1 (c := ?_) | refine C.no (h1 := ?_) | refine C.exit ?_ | refine D.thenExit ?_ | refine D.blkExit ?_ | refine D.seqR (h := ?_) | refine L.lenR sv (c := ?_))
      have hrun : (rrun regs bs os 0 ⟨List.replicate regs.toNat false, []⟩).2 = 0 := by
        have := he; unfold checkM at this; rw [hh] at this; exact this
      have hsk : ∀ j, j < os.length → (opAt os j).k = 17 → stkAt os j ≠ [] := fun j hj hk => stk_len os 0 ⟨List.replicate regs.toNat false, []⟩ rfl hrun rfl j (Nat.zero_le _) hj hk
      refine L.callP [] (ends12_S regs vb vo bs os he hsk) (hpre := fun w hw => ⟨hr.1.1.at hw, hr.1.2.at hw⟩) (k := ?_)
      rintro u0 B0 ⟨eb, rfl, rfl⟩
      rw [hdrop_nil]
      unfold shut
      simp only [List.cons_append, List.nil_append]
      repeat' (first | refine C.seq ?_ | refine C.region ?_ | refine L.nil ?_ | refine D.seq ?_ | refine L.assign (k := ?_) | refine C.block ?_ | refine D.seqR (h := ?_))
      obtain ⟨p, hp, hpS, hgo0⟩ := goes_all he
      obtain ⟨n0, hn0⟩ := hgo0 (initS regs bs rs) (by simp [initS])
      obtain ⟨x, hx⟩ : ∃ x, p.exec 0 (initS regs bs rs) = x := ⟨_, rfl⟩
      have hxl : x.1.l.length ≤ 16777216 := by
        have h1 := exec_len p 0 (initS regs bs rs)
        rw [hx] at h1
        have h2 := cnt_steps hpS (by rw [← hp]; omega)
        rw [← hp] at h2
        have h3 : (initS regs bs rs).l.length = 0 := rfl
        rw [h3] at h1
        cases hx2 : x.2 with
        | true => have := h1.1 hx2; omega
        | false => have := h1.2 hx2; omega
      rw [hx] at hn0
      have hdrf := hrf
      obtain ⟨h00, hh00⟩ : ∃ h : HG, (⟨some (nb, List.replicate regs.toNat (.int .u64 0), regs.toNat), y, ys, none⟩ : HG) = h := ⟨_, rfl⟩
      have hg00 : RunG (initS regs bs rs) h00 := by
        rw [← hh00]
        refine ⟨⟨by simp, ?_, ?_, ?_⟩, hR, ?_, osG.nil⟩
        · simp [initS]
        · unfold maxLen; omega
        · simp [initS]
        · show osG 1 (initB bs rs).length _ _; rw [hbl]; exact hG
      have hM00 : runHp xb regs vb vo (initS regs bs rs) h00 = (xb, ob [.int .i64 regs, vb, vo, .slice (some ⟨nb, 0, none⟩) regs.toNat regs.toNat, osV bs.length y, nilV] 88) :: (nb, ob (List.replicate regs.toNat (.int .u64 0)) 37) :: (osC 47 y [] ++ rowsHp ys) := by
        rw [← hh00]
        unfold runHp runC
        simp [initS, osV, osC, hbl]
      refine C.perm (M' := (eb, ob ((eRun os os.length).map int) 3) :: (pb, ob [.int .i64 regs, vb, vo] 25) :: runHp xb regs vb vo (initS regs bs rs) h00) ?_ ?_
      · rw [hM00]; exact List.Perm.cons _ (List.Perm.swap _ _ _)
      refine C.loop (α := FS × Nat × HG) (fun z => Goes os z.1 z.2.1 (.inr x) ∧ RunG z.1.s z.2.2 ∧ z.1.s.r.length = regs.toNat ∧ z.1.s.bufs.length = bs.length ∧ z.1.pc ≤ os.length)
        (fun z => [(2, .pointer (some ⟨pb, 0, none⟩)), (9, .pointer (some ⟨xb, 0, none⟩)), (12, .slice (some ⟨eb, 0, none⟩) os.length os.length), (13, .bool z.1.first), (14, .int .i64 z.1.pc)])
        (fun z => (eb, ob ((eRun os os.length).map int) 3) :: (pb, ob [.int .i64 regs, vb, vo] 25) :: runHp xb regs vb vo z.1.s z.2.2) (fun z => z.2.1) (⟨0, true, initS regs bs rs⟩, n0, h00) (fun a w hs => hs.lessE rfl (lk_cons rfl (lk_cons rfl (lk_cons rfl (lk_cons rfl (lk_cons rfl (fun _ _ h => lk_nil h)))))))
        ⟨hn0, hg00, by simp [initS], hbl, Nat.zero_le _⟩ ?_
      clear hgo0 hh00 hg00 hM00 hR hG hyl hge
      clear h00
      rintro ⟨f, n, h⟩ ⟨hgo, hg, hR, hB, hpc⟩
      simp only at hgo hg hR hB hpc ⊢
      have hl := Nat.le_trans (Goes.len hrf hsk hgo) hxl
      obtain ⟨rv, hrv⟩ : ∃ rv, osV f.s.r.length h.ry = rv := ⟨_, rfl⟩
      obtain ⟨bv, hbv⟩ : ∃ bv, osV f.s.bufs.length h.y = bv := ⟨_, rfl⟩
      obtain ⟨lv, hlv⟩ : ∃ lv, osV f.s.l.length h.ly = lv := ⟨_, rfl⟩
      have hC : runC regs vb vo f.s h = [.int .i64 regs, vb, vo, rv, bv, lv] := by unfold runC; rw [hrv, hbv, hlv]
      have hHp := runHp_eq xb regs vb vo f.s h hC
      have k2 : ar .add .i64 (f.pc : Int) 1 = ((f.pc + 1 : Nat) : Int) := wrap_nat (by omega)
      rcases Nat.lt_or_ge f.pc os.length with hlt | hge
      · have k1 : cm .lss (f.pc : Int) os.length = true := cm_lo (by omega)
        obtain ⟨ho0, hmem0⟩ := opAt_lt hlt
        obtain ⟨o, hoe⟩ : ∃ o, opAt os f.pc = o := ⟨_, rfl⟩
        rw [hoe] at ho0 hmem0
        have hof := hrf o hmem0
        have o2 := hr.1.2.2 (by omega)
        obtain ⟨ha0, hal⟩ := flat_at encO_len ho0
        have ha := ha0.trans (encO_ex o)
        have gr := hg.r
        have hsl := gr.sl
        rw [hrv] at hsl
        have em : ∀ k, k ∈ [o.d, o.e] → 0 ≤ k → k < f.s.r.length := fun k hk h0 => by
          have := rf_makes hof k (by rw [makes_filter hof]; exact List.mem_filter.2 ⟨hk, cm_ge h0⟩)
          omega
        by_cases h16 : o.k = 16
        · have k16 : cm .eql o.k 16 = true := cm_yes h16
          have hdr := rf_makes hof o.d (by rw [makes_loop h16]; simp)
          have hdi : o.d = (o.d.toNat : Int) := by omega
          have hdk : o.d.toNat < f.s.r.length := by omega
          have hstep : fstep os f = .inl ⟨f.pc + 1, true, ⟨if f.first then f.s.r.set o.d.toNat 0 else f.s.r, f.s.bufs, f.s.l ++ [⟨f.pc, -1⟩]⟩⟩ := by
            unfold fstep; rw [if_pos hlt, hoe, if_pos k16]
          obtain ⟨n', rfl, hgo'⟩ : ∃ m, n = m + 1 ∧ Goes os ⟨f.pc + 1, true, ⟨if f.first then f.s.r.set o.d.toNat 0 else f.s.r, f.s.bufs, f.s.l ++ [⟨f.pc, -1⟩]⟩⟩ m (.inr x) := by
            rcases hgo.inv with h1 | ⟨g, m, e, h1, h2⟩
            · rw [hstep] at h1; cases h1
            · rw [hstep] at h1; cases h1; exact ⟨m, e, h2⟩
          rw [hHp]
          repeat' (first | refine C.seq ?_ | refine C.region ?_ | refine L.nil ?_ | refine D.seq ?_ | refine L.move (k := ?_) | refine L.assign (k := ?_) | refine L.cm (c := ?_) | refine L.fieldAddr (c := ?_) | refine L.load1 0 (c := ?_) | refine L.load1 1 (c := ?_) | refine L.storeV 0 (c := ?_) | refine L.alloc (c := fun _ => ?_) | refine C.yes (h1 := ?_) | refine C.block ?_ | refine C.skip ?_ | refine L.lenR s2 (c := ?_) | refine L.indexR s2 hlt (c := ?_) | refine L.loadOA o2 (i := f.pc * 8) (ho := rfl) (hi := hal) (hcs := ha) (c := ?_))
          rename_i ob1
          refine SL.C.joinK (fun z : RS × HG => RunG z.1 z.2 ∧ z.1 = ⟨if f.first then f.s.r.set o.d.toNat 0 else f.s.r, f.s.bufs, f.s.l⟩)
            (fun z => [(2, .pointer (some ⟨pb, 0, none⟩)), (9, .pointer (some ⟨xb, 0, none⟩)), (12, .slice (some ⟨eb, 0, none⟩) os.length os.length), (14, .int .i64 f.pc)])
            (fun z => (ob1, ob [.int .i64 o.k, .int .i64 o.d, .int .i64 o.e, .int .i64 o.a, .int .i64 o.b, .int .i64 o.c, .int .i64 o.buf, .int .u64 o.imm] 39) :: (eb, ob ((eRun os os.length).map int) 3) :: (pb, ob [.int .i64 regs, vb, vo] 25) :: runHp xb regs vb vo z.1 z.2) ?_ ?_
          · cases hfi : f.first with
            | false =>
              repeat' (first | refine C.no (h1 := ?_) | refine C.skip ?_)
              exact D.then_ fun a1 w1 hs => ⟨(f.s, h), ⟨hg, by simp⟩, hs.lessE (by rw [hHp]) (lk_cons rfl (lk_cons rfl (lk_cons rfl (lk_cons rfl (fun _ _ h => lk_nil h)))))⟩
            | true =>
              repeat' (first | refine C.yes (h1 := ?_) | refine C.make ((xb, ob [.int .i64 regs, vb, vo, rv, bv, lv] 88) :: (ob1, ob [.int .i64 o.k, .int .i64 o.d, .int .i64 o.e, .int .i64 o.a, .int .i64 o.b, .int .i64 o.c, .int .i64 o.buf, .int .u64 o.imm] 39) :: (eb, ob ((eRun os os.length).map int) 3) :: (pb, ob [.int .i64 regs, vb, vo] 25) :: (osC 47 h.y [] ++ (rowsHp h.ys ++ osC 55 h.ly []))) (by kernel_rfl) (h := ?_))
              iterate 7 ((refine QP.quiet (v := ?_) (by exact rfl) (by exact rfl) (fun w1 g1 => ?_) ?_; rotate_left); repeat (first | refine L.nil ?_ | refine L.move (k := ?_) | refine L.fieldAddr (c := ?_) | refine L.load1 0 (c := ?_) | refine L.load1 1 (c := ?_) | refine L.nilCheck (k := ?_) | exact D.endsQ | refine L.indexR hsl hdk (hi := hdi) (c := ?_)))
              refine QP.mk0 (osC 37 h.ry []) (fun F B => F = [] ∧ B = osC 37 (osSet h.ry (o.d.toNat * 1 + 0) (.int .u64 0)) []) (h := fun w1 g1 => ?_) (k := ?_)
              · refine L.setU [] (i := o.d.toNat) (j := 0) gr (by rw [List.nil_append]; exact (osC_app _ _ _).symm) hrv hdk (by decide) (c := fun hG' hv' => ?_)
                refine L.nil ?_
                exact D.endsP0 [] (osC 37 (osSet h.ry (o.d.toNat * 1 + 0) (.int .u64 0)) []) (hM := by rw [List.nil_append]; exact (osC_app _ _ _)) (hF := fun _ _ h => by cases h) (hR := ⟨rfl, rfl⟩)
              refine QP.fin1 [none, none, none, none, none, none, none, some []] 7 (nds := [[], [], [], [], [], [], [], []]) (hM := ?_) (k := ?_)
              · exact perm_by (fun k => match k with | 0 => [(ob1, ob [.int .i64 o.k, .int .i64 o.d, .int .i64 o.e, .int .i64 o.a, .int .i64 o.b, .int .i64 o.c, .int .i64 o.buf, .int .u64 o.imm] 39), (eb, ob ((eRun os os.length).map int) 3), (pb, ob [.int .i64 regs, vb, vo] 25)] | 1 => [(xb, ob [.int .i64 regs, vb, vo, rv, bv, lv] 88)] | 2 => osC 37 h.ry [] | _ => (osC 47 h.y [] ++ (rowsHp h.ys ++ osC 55 h.ly []))) [0, 1, 2, 3] [2, 1, 0, 3] (by simp) (by simp [Pl.ini])
              rintro F B ⟨rfl, rfl⟩
              rw [List.nil_append]
              have hput : (⟨f.s.r.set o.d.toNat 0, f.s.bufs, f.s.l⟩ : RS) = ⟨putR f.s.r o.d 0, f.s.bufs, f.s.l⟩ := by rw [putR_ge hdr.1]
              refine D.perm (M' := (ob1, ob [.int .i64 o.k, .int .i64 o.d, .int .i64 o.e, .int .i64 o.a, .int .i64 o.b, .int .i64 o.c, .int .i64 o.buf, .int .u64 o.imm] 39) :: (eb, ob ((eRun os os.length).map int) 3) :: (pb, ob [.int .i64 regs, vb, vo] 25) :: runHp xb regs vb vo ⟨putR f.s.r o.d 0, f.s.bufs, f.s.l⟩ { h with ry := osSet h.ry (o.d.toNat * 1 + 0) (.int .u64 0) }) ?_ ?_
              · rw [runHp_eq xb regs vb vo _ _ ((runC_put regs vb vo f.s h _ _ _ _).trans hC)]
                exact perm_by (fun k => match k with | 0 => [(ob1, ob [.int .i64 o.k, .int .i64 o.d, .int .i64 o.e, .int .i64 o.a, .int .i64 o.b, .int .i64 o.c, .int .i64 o.buf, .int .u64 o.imm] 39), (eb, ob ((eRun os os.length).map int) 3), (pb, ob [.int .i64 regs, vb, vo] 25)] | 1 => [(xb, ob [.int .i64 regs, vb, vo, rv, bv, lv] 88)] | 2 => osC 37 (osSet h.ry (o.d.toNat * 1 + 0) (.int .u64 0)) [] | _ => (osC 47 h.y [] ++ (rowsHp h.ys ++ osC 55 h.ly []))) [0, 1, 2, 3] [2, 1, 0, 3] (by simp) (by simp)
              repeat' (first | fail)
              exact D.then_ fun a1 w1 hs => ⟨(⟨putR f.s.r o.d 0, f.s.bufs, f.s.l⟩, { h with ry := osSet h.ry (o.d.toNat * 1 + 0) (.int .u64 0) }), ⟨hg.put hdr.1, by rw [if_pos rfl, hput]⟩, hs.lessE rfl (lk_cons rfl (lk_cons rfl (lk_cons rfl (lk_cons rfl (fun _ _ h => lk_nil h)))))⟩
          rintro ⟨s5, h5⟩ ⟨hg5, hs5⟩
          simp only at hg5 hs5 ⊢
          have gl := hg5.l
          have hll : s5.l.length ≤ 16777216 := by rw [hs5]; exact hl
          obtain ⟨rv5, hrv5⟩ : ∃ rv, osV s5.r.length h5.ry = rv := ⟨_, rfl⟩
          obtain ⟨bv5, hbv5⟩ : ∃ bv, osV s5.bufs.length h5.y = bv := ⟨_, rfl⟩
          obtain ⟨lv5, hlv5⟩ : ∃ lv, osV s5.l.length h5.ly = lv := ⟨_, rfl⟩
          have hC5 : runC regs vb vo s5 h5 = [.int .i64 regs, vb, vo, rv5, bv5, lv5] := by unfold runC; rw [hrv5, hbv5, hlv5]
          rw [runHp_eq xb regs vb vo s5 h5 hC5]
          repeat' (first | refine C.seq ?_ | refine C.region ?_ | refine L.move (k := ?_) | refine L.fieldAddr (c := ?_) | refine L.load1 3 (c := ?_) | refine L.build (c := ?_) | refine L.nilCheck (k := ?_) | refine L.buildS (c := fun _ => ?_))
          rename_i vb1
          have h56 : 5 < [(.int .i64 regs : Value), vb, vo, rv5, bv5, lv5].length := by simp
          refine L.appendU ((vb1, ob [int (f.pc : Int), int (-1)] 55) :: (ob1, ob [.int .i64 o.k, .int .i64 o.d, .int .i64 o.e, .int .i64 o.a, .int .i64 o.b, .int .i64 o.c, .int .i64 o.buf, .int .u64 o.imm] 39) :: (eb, ob ((eRun os os.length).map int) 3) :: (pb, ob [.int .i64 regs, vb, vo] 25) :: (xb, ob [.int .i64 regs, vb, vo, rv5, bv5, lv5] 88) :: (osC 37 h5.ry [] ++ (osC 47 h5.y [] ++ rowsHp h5.ys))) (L2 := []) (u := .slice (some ⟨vb1, 0, none⟩) 1 1) (k := 1) (news := [int (f.pc : Int), int (-1)]) gl (by simp) (fun w hw => Rd.own (hw.holds _ List.mem_cons_self) (by simp) (Nat.le_refl _) 2 rfl) rfl (by intro u hu; simp at hu; rcases hu with rfl | rfl <;> rfl) (by unfold maxLen; omega) (by omega) (hx := by rw [hlv5]; exact rfl) (c := fun y' hG' _ => ?_)
          repeat' (first | refine L.storeK 4 h56 rfl (hc := osV_cells _ _) (h1 := oneB_os _ _) (hM := rfl) (c := ?_) | refine C.region ?_ | refine L.nil ?_ | refine D.seq ?_ | refine L.move (k := ?_) | refine L.assign (k := ?_) | refine L.ar (c := ?_) | refine L.fieldAddr (c := ?_) | refine L.nilCheck (k := ?_) | refine D.blkNormal ?_ | refine D.seqR (h := ?_))
          have hs6 : (⟨if f.first then f.s.r.set o.d.toNat 0 else f.s.r, f.s.bufs, f.s.l ++ [⟨(f.pc : Int), -1⟩]⟩ : RS) = ⟨s5.r, s5.bufs, s5.l ++ [⟨(f.pc : Int), -1⟩]⟩ := by rw [hs5]
          rw [hs6] at hgo'
          refine D.then_ fun a1 w1 hs => ⟨(⟨f.pc + 1, true, ⟨s5.r, s5.bufs, s5.l ++ [⟨(f.pc : Int), -1⟩]⟩⟩, n', { h5 with ly := y' }), ⟨hgo', hg5.ev (e := ⟨(f.pc : Int), -1⟩) hG', ?_, ?_, by simp only; omega⟩, by simp only; omega, hs.lessD 2 ?_ (lk_cons rfl (lk_cons rfl (lk_cons rfl (lk_cons rfl (lk_cons rfl (fun _ _ h => lk_nil h))))))⟩
          · simp only; rw [hs5]; simp only; split
            · rw [List.length_set]; exact hR
            · exact hR
          · simp only; rw [hs5]; exact hB
          · simp only
            rw [runHp_eq xb regs vb vo _ _ (cs := [.int .i64 regs, vb, vo, rv5, bv5, osV (s5.l.length + 1) y']) (by unfold runC; simp only [hrv5, hbv5, List.length_append, List.length_singleton])]
            simp
            rfl
        have k16 : cm .eql o.k 16 = false := cm_no h16
        by_cases h17 : o.k = 17
        · have k17 : cm .eql o.k 17 = true := cm_yes h17
          have hne := hsk f.pc hlt (by rw [hoe]; exact h17)
          have hmm : matchAt os f.pc ∈ stkAt os f.pc := by
            unfold matchAt; rw [List.getLast?_eq_some_getLast hne]; exact List.getLast_mem hne
          have hec := eRun_end hlt (by rw [hoe]; exact h17) hsk os.length (Nat.le_refl _) hlt
          have hfs : fstep os f = if cm .lss (ar .add .u64 (regAt f.s.r (opAt os (matchAt os f.pc)).d) 1) (opAt os (matchAt os f.pc)).imm then
              .inl ⟨matchAt os f.pc, false, ⟨f.s.r.set (opAt os (matchAt os f.pc)).d.toNat (ar .add .u64 (regAt f.s.r (opAt os (matchAt os f.pc)).d) 1), f.s.bufs, f.s.l⟩⟩ else .inl ⟨f.pc + 1, f.first, f.s⟩ := by
            unfold fstep; rw [if_pos hlt, hoe, k16, if_neg (by simp), if_pos k17]
          obtain ⟨m, hm⟩ : ∃ m, matchAt os f.pc = m := ⟨_, rfl⟩
          rw [hm] at hmm hec hfs
          obtain ⟨hmp, hm16⟩ := stk_mem f.pc (by omega) _ hmm
          have hmlt : m < os.length := by omega
          obtain ⟨hom0, hmemm⟩ := opAt_lt hmlt
          obtain ⟨om, home⟩ : ∃ o, opAt os m = o := ⟨_, rfl⟩
          rw [home] at hom0 hmemm hfs hm16
          have hofm := hrf om hmemm
          have hdm := rf_makes hofm om.d (by rw [makes_loop hm16]; simp)
          have hdmi : om.d = (om.d.toNat : Int) := by omega
          have hdmk : om.d.toNat < f.s.r.length := by omega
          obtain ⟨hma0, hmal⟩ := flat_at encO_len hom0
          have hma := hma0.trans (encO_ex om)
          have hecell : ((eRun os os.length).map int)[f.pc]? = some (.int .i64 (m : Int)) := by rw [List.getElem?_map, hec]; rfl
          have hez : 0 + f.pc * 1 = f.pc := by omega
          have hrc : (f.s.r.map u64)[om.d.toNat * 1 + 0]? = some (.int .u64 (regAt f.s.r om.d)) := by
            rw [Nat.mul_one, Nat.add_zero, List.getElem?_map]
            unfold regAt
            rw [List.getElem?_eq_getElem hdmk]; rfl
          have k3 : ar .sub .i64 (m : Int) 1 = (m : Int) - 1 := wrap_big (by omega)
          have k4 : ar .add .i64 ((m : Int) - 1) 1 = (m : Int) := by
            show IntKind.i64.wrap _ = _
            rw [wrap_big (by omega)]; omega
          rw [hHp]
          repeat' (first | refine C.seq ?_ | refine C.region ?_ | refine L.nil ?_ | refine D.seq ?_ | refine L.move (k := ?_) | refine L.assign (k := ?_) | refine L.cm (c := ?_) | refine L.fieldAddr (c := ?_) | refine L.load1 0 (c := ?_) | refine L.load1 1 (c := ?_) | refine L.storeV 0 (c := ?_) | refine L.alloc (c := fun _ => ?_) | refine C.yes (h1 := ?_) | refine C.no (h1 := ?_) | refine C.block ?_ | refine C.skip ?_ | refine L.lenR s2 (c := ?_) | refine L.indexR s2 hlt (c := ?_) | refine L.loadOA o2 (i := f.pc * 8) (ho := rfl) (hi := hal) (hcs := ha) (c := ?_))
          rename_i ob1
          refine C.make ((ob1, ob [.int .i64 o.k, .int .i64 o.d, .int .i64 o.e, .int .i64 o.a, .int .i64 o.b, .int .i64 o.c, .int .i64 o.buf, .int .u64 o.imm] 39) :: (eb, ob ((eRun os os.length).map int) 3) :: (pb, ob [.int .i64 regs, vb, vo] 25) :: (xb, ob [.int .i64 regs, vb, vo, rv, bv, lv] 88) :: (osC 37 h.ry [] ++ (osC 47 h.y [] ++ (rowsHp h.ys ++ osC 55 h.ly [])))) (by kernel_rfl) (h := ?_)
          iterate 8 ((refine QP.quiet (v := ?_) (by exact rfl) (by exact rfl) (fun w1 g1 => ?_) ?_; rotate_left); have o2' := (hr.1.2.base g1 _ (fun _ h => h)).2 (by omega); repeat (first | refine L.nil ?_ | refine L.move (k := ?_) | refine L.fieldAddr (c := ?_) | refine L.load1 2 (c := ?_) | exact D.endsQ | refine L.indexP (k := f.pc) (hi := rfl) (hk := hlt) (c := ?_) | refine L.loadK 1 hecell hez (c := ?_) | refine L.indexR s2 hmlt (hi := rfl) (c := ?_) | refine L.loadOA o2' (i := m * 8) (ho := rfl) (hi := hmal) (hcs := hma) (c := ?_)))
          refine QP.mk0 [] (fun F B => ∃ ob2, F = [(16, .pointer (some ⟨ob2, 0, none⟩))] ∧ B = [(ob2, ob [.int .i64 0, .int .i64 0, .int .i64 0, .int .i64 0, .int .i64 0, .int .i64 0, .int .i64 0, .int .u64 0] 39)]) (h := fun w1 g1 => ?_) (k := ?_)
          · rw [List.nil_append]
            repeat (first | refine L.nil ?_ | refine L.alloc (c := fun _ => ?_))
            exact D.endsP1 [_] (hR := ⟨_, rfl, rfl⟩)
          refine QP.mk1 8 [] (fun F B => ∃ ob2, F = [(16, .pointer (some ⟨ob2, 0, none⟩))] ∧ B = [(ob2, ob [.int .i64 om.k, .int .i64 om.d, .int .i64 om.e, .int .i64 om.a, .int .i64 om.b, .int .i64 om.c, .int .i64 om.buf, .int .u64 om.imm] 39)]) (h := ?_) (k := ?_)
          · rintro F B ⟨ob2, rfl, rfl⟩ w1 g1
            simp only [List.cons_append, List.nil_append] at g1 ⊢
            repeat (first | refine L.nil ?_ | refine L.storeV 0 (c := ?_))
            exact D.endsP0 [(16, .pointer (some ⟨ob2, 0, none⟩))] [(ob2, ob [.int .i64 om.k, .int .i64 om.d, .int .i64 om.e, .int .i64 om.a, .int .i64 om.b, .int .i64 om.c, .int .i64 om.buf, .int .u64 om.imm] 39)] (hM := rfl) (hF := fun _ _ h => h) (hR := ⟨_, rfl, rfl⟩)
          refine QP.fin1 [none, none, none, none, none, none, none, none, some [], some [8]] 9 (nds := [[], [], [], [], [], [], [], [], [], []]) (hM := List.Perm.refl _) (k := ?_)
          rintro F B ⟨ob2, rfl, rfl⟩
          simp only [List.cons_append, List.nil_append]
          have hMr : ((ob2, ob [.int .i64 om.k, .int .i64 om.d, .int .i64 om.e, .int .i64 om.a, .int .i64 om.b, .int .i64 om.c, .int .i64 om.buf, .int .u64 om.imm] 39) :: (ob1, ob [.int .i64 o.k, .int .i64 o.d, .int .i64 o.e, .int .i64 o.a, .int .i64 o.b, .int .i64 o.c, .int .i64 o.buf, .int .u64 o.imm] 39) :: (eb, ob ((eRun os os.length).map int) 3) :: (pb, ob [.int .i64 regs, vb, vo] 25) :: (xb, ob [.int .i64 regs, vb, vo, rv, bv, lv] 88) :: (osC 37 h.ry [] ++ (osC 47 h.y [] ++ (rowsHp h.ys ++ osC 55 h.ly [])))) = [(ob2, ob [.int .i64 om.k, .int .i64 om.d, .int .i64 om.e, .int .i64 om.a, .int .i64 om.b, .int .i64 om.c, .int .i64 om.buf, .int .u64 om.imm] 39), (ob1, ob [.int .i64 o.k, .int .i64 o.d, .int .i64 o.e, .int .i64 o.a, .int .i64 o.b, .int .i64 o.c, .int .i64 o.buf, .int .u64 o.imm] 39), (eb, ob ((eRun os os.length).map int) 3), (pb, ob [.int .i64 regs, vb, vo] 25), (xb, ob [.int .i64 regs, vb, vo, rv, bv, lv] 88)] ++ osC 37 h.ry (osC 47 h.y [] ++ (rowsHp h.ys ++ osC 55 h.ly [])) := by
            rw [osC_app 37 h.ry (osC 47 h.y [] ++ (rowsHp h.ys ++ osC 55 h.ly []))]; rfl
          repeat' (first | refine C.quiet (h := ?_) | refine C.seq ?_ | refine L.nil ?_ | refine D.seq ?_ | refine L.move (k := ?_) | refine L.cm (c := ?_) | refine L.ar (c := ?_) | refine L.fieldAddr (c := ?_) | refine L.load1 0 (c := ?_) | refine L.load1 4 (c := ?_) | refine L.nilCheck (k := ?_) | refine D.seqR (h := ?_) | exact D.endsQ | refine QL.fin ?_ | (refine QL.step (v := ?_) (by exact rfl) (by exact rfl) ?_ ?_; rotate_left) | refine L.indexR hsl hdmk (hi := hdmi) (c := ?_) | refine L.loadW [(ob2, ob [.int .i64 om.k, .int .i64 om.d, .int .i64 om.e, .int .i64 om.a, .int .i64 om.b, .int .i64 om.c, .int .i64 om.buf, .int .u64 om.imm] 39), (ob1, ob [.int .i64 o.k, .int .i64 o.d, .int .i64 o.e, .int .i64 o.a, .int .i64 o.b, .int .i64 o.c, .int .i64 o.buf, .int .u64 o.imm] 39), (eb, ob ((eRun os os.length).map int) 3), (pb, ob [.int .i64 regs, vb, vo] 25), (xb, ob [.int .i64 regs, vb, vo, rv, bv, lv] 88)] (L2 := (osC 47 h.y [] ++ (rowsHp h.ys ++ osC 55 h.ly []))) (j := 0) gr hMr hrv hdmk (by decide) hrc (c := ?_))
          cases hcl : cm .lss (ar .add .u64 (regAt f.s.r om.d) 1) om.imm with
          | true =>
            rw [hcl, if_pos rfl] at hfs
            have hput : (⟨f.s.r.set om.d.toNat (ar .add .u64 (regAt f.s.r om.d) 1), f.s.bufs, f.s.l⟩ : RS) = ⟨putR f.s.r om.d (ar .add .u64 (regAt f.s.r om.d) 1), f.s.bufs, f.s.l⟩ := by rw [putR_ge hdm.1]
            rw [hput] at hfs
            obtain ⟨n', rfl, hgo'⟩ : ∃ q, n = q + 1 ∧ Goes os ⟨m, false, ⟨putR f.s.r om.d (ar .add .u64 (regAt f.s.r om.d) 1), f.s.bufs, f.s.l⟩⟩ q (.inr x) := by
              rcases hgo.inv with h1 | ⟨g, q, e, h1, h2⟩
              · rw [hfs] at h1; cases h1
              · rw [hfs] at h1; cases h1; exact ⟨q, e, h2⟩
            repeat' (first | refine C.seq ?_ | refine C.yes (h1 := ?_) | refine C.make ((xb, ob [.int .i64 regs, vb, vo, rv, bv, lv] 88) :: (ob2, ob [.int .i64 om.k, .int .i64 om.d, .int .i64 om.e, .int .i64 om.a, .int .i64 om.b, .int .i64 om.c, .int .i64 om.buf, .int .u64 om.imm] 39) :: (ob1, ob [.int .i64 o.k, .int .i64 o.d, .int .i64 o.e, .int .i64 o.a, .int .i64 o.b, .int .i64 o.c, .int .i64 o.buf, .int .u64 o.imm] 39) :: (eb, ob ((eRun os os.length).map int) 3) :: (pb, ob [.int .i64 regs, vb, vo] 25) :: (osC 47 h.y [] ++ (rowsHp h.ys ++ osC 55 h.ly []))) (by kernel_rfl) (h := ?_))
            iterate 7 ((refine QP.quiet (v := ?_) (by exact rfl) (by exact rfl) (fun w1 g1 => ?_) ?_; rotate_left); repeat (first | refine L.nil ?_ | refine L.move (k := ?_) | refine L.fieldAddr (c := ?_) | refine L.load1 0 (c := ?_) | refine L.load1 1 (c := ?_) | refine L.nilCheck (k := ?_) | exact D.endsQ | refine L.indexR hsl hdmk (hi := hdmi) (c := ?_)))
            (refine QP.quietI (v := ?_) [10] (osC 37 h.ry [] ++ []) (by exact rfl) (by exact rfl) (fun w1 g1 => ?_) ?_; rotate_left); repeat (first | refine L.nil ?_ | exact D.endsQ | refine L.loadW [] (L2 := ((xb, ob [.int .i64 regs, vb, vo, rv, bv, lv] 88) :: (ob2, ob [.int .i64 om.k, .int .i64 om.d, .int .i64 om.e, .int .i64 om.a, .int .i64 om.b, .int .i64 om.c, .int .i64 om.buf, .int .u64 om.imm] 39) :: (ob1, ob [.int .i64 o.k, .int .i64 o.d, .int .i64 o.e, .int .i64 o.a, .int .i64 o.b, .int .i64 o.c, .int .i64 o.buf, .int .u64 o.imm] 39) :: (eb, ob ((eRun os os.length).map int) 3) :: (pb, ob [.int .i64 regs, vb, vo] 25) :: (osC 47 h.y [] ++ (rowsHp h.ys ++ osC 55 h.ly [])))) (j := 0) gr (by rw [List.append_nil, osC_app 37 h.ry ((xb, ob [.int .i64 regs, vb, vo, rv, bv, lv] 88) :: (ob2, ob [.int .i64 om.k, .int .i64 om.d, .int .i64 om.e, .int .i64 om.a, .int .i64 om.b, .int .i64 om.c, .int .i64 om.buf, .int .u64 om.imm] 39) :: (ob1, ob [.int .i64 o.k, .int .i64 o.d, .int .i64 o.e, .int .i64 o.a, .int .i64 o.b, .int .i64 o.c, .int .i64 o.buf, .int .u64 o.imm] 39) :: (eb, ob ((eRun os os.length).map int) 3) :: (pb, ob [.int .i64 regs, vb, vo] 25) :: (osC 47 h.y [] ++ (rowsHp h.ys ++ osC 55 h.ly [])))]; rfl) hrv hdmk (by decide) hrc (c := ?_))
            iterate 2 ((refine QP.quiet (v := ?_) (by exact rfl) (by exact rfl) (fun w1 g1 => ?_) ?_; rotate_left); repeat (first | refine L.nil ?_ | refine L.ar (c := ?_) | exact D.endsQ | refine L.indexR hsl hdmk (hi := hdmi) (c := ?_)))
            refine QP.mk0 (osC 37 h.ry []) (fun F B => F = [] ∧ B = osC 37 (osSet h.ry (om.d.toNat * 1 + 0) (.int .u64 (ar .add .u64 (regAt f.s.r om.d) 1))) []) (h := fun w1 g1 => ?_) (k := ?_)
            · refine L.setU [] (i := om.d.toNat) (j := 0) gr (by rw [List.nil_append]; exact (osC_app _ _ _).symm) hrv hdmk (by decide) (c := fun hG' hv' => ?_)
              refine L.nil ?_
              exact D.endsP0 [] (osC 37 (osSet h.ry (om.d.toNat * 1 + 0) (.int .u64 (ar .add .u64 (regAt f.s.r om.d) 1))) []) (hM := by rw [List.nil_append]; exact (osC_app _ _ _)) (hF := fun _ _ h => by cases h) (hR := ⟨rfl, rfl⟩)
            refine QP.fin1 [none, none, none, none, none, none, none, none, none, none, some []] 10 (nds := [[], [], [], [], [], [], [], [10], [], [], []]) (hM := ?_) (k := ?_)
            · exact perm_by (fun k => match k with | 0 => [(ob2, ob [.int .i64 om.k, .int .i64 om.d, .int .i64 om.e, .int .i64 om.a, .int .i64 om.b, .int .i64 om.c, .int .i64 om.buf, .int .u64 om.imm] 39), (ob1, ob [.int .i64 o.k, .int .i64 o.d, .int .i64 o.e, .int .i64 o.a, .int .i64 o.b, .int .i64 o.c, .int .i64 o.buf, .int .u64 o.imm] 39), (eb, ob ((eRun os os.length).map int) 3), (pb, ob [.int .i64 regs, vb, vo] 25)] | 1 => [(xb, ob [.int .i64 regs, vb, vo, rv, bv, lv] 88)] | 2 => osC 37 h.ry [] | _ => (osC 47 h.y [] ++ (rowsHp h.ys ++ osC 55 h.ly []))) [0, 1, 2, 3] [2, 1, 0, 3] (by simp) (by simp [Pl.ini])
            rintro F B ⟨rfl, rfl⟩
            rw [List.nil_append]
            refine D.perm (M' := (ob2, ob [.int .i64 om.k, .int .i64 om.d, .int .i64 om.e, .int .i64 om.a, .int .i64 om.b, .int .i64 om.c, .int .i64 om.buf, .int .u64 om.imm] 39) :: (ob1, ob [.int .i64 o.k, .int .i64 o.d, .int .i64 o.e, .int .i64 o.a, .int .i64 o.b, .int .i64 o.c, .int .i64 o.buf, .int .u64 o.imm] 39) :: (eb, ob ((eRun os os.length).map int) 3) :: (pb, ob [.int .i64 regs, vb, vo] 25) :: runHp xb regs vb vo ⟨putR f.s.r om.d (ar .add .u64 (regAt f.s.r om.d) 1), f.s.bufs, f.s.l⟩ { h with ry := (osSet h.ry (om.d.toNat * 1 + 0) (.int .u64 (ar .add .u64 (regAt f.s.r om.d) 1))) }) ?_ ?_
            · rw [runHp_eq xb regs vb vo _ _ ((runC_put regs vb vo f.s h _ _ _ _).trans hC)]
              exact perm_by (fun k => match k with | 0 => [(ob2, ob [.int .i64 om.k, .int .i64 om.d, .int .i64 om.e, .int .i64 om.a, .int .i64 om.b, .int .i64 om.c, .int .i64 om.buf, .int .u64 om.imm] 39), (ob1, ob [.int .i64 o.k, .int .i64 o.d, .int .i64 o.e, .int .i64 o.a, .int .i64 o.b, .int .i64 o.c, .int .i64 o.buf, .int .u64 o.imm] 39), (eb, ob ((eRun os os.length).map int) 3), (pb, ob [.int .i64 regs, vb, vo] 25)] | 1 => [(xb, ob [.int .i64 regs, vb, vo, rv, bv, lv] 88)] | 2 => osC 37 (osSet h.ry (om.d.toNat * 1 + 0) (.int .u64 (ar .add .u64 (regAt f.s.r om.d) 1))) [] | _ => (osC 47 h.y [] ++ (rowsHp h.ys ++ osC 55 h.ly []))) [0, 1, 2, 3] [2, 1, 0, 3] (by simp) (by simp)
            repeat' (first | refine C.seq ?_ | refine C.region ?_ | refine L.nil ?_ | refine D.seq ?_ | refine L.move (k := ?_) | refine L.assign (k := ?_) | refine L.ar (c := ?_) | refine D.blkNormal ?_ | refine D.seqR (h := ?_) | refine L.indexP (k := f.pc) (hi := rfl) (hk := hlt) (c := ?_) | refine L.loadK 2 hecell hez (c := ?_))
            refine D.then_ fun a1 w1 hs => ⟨(⟨m, false, ⟨putR f.s.r om.d (ar .add .u64 (regAt f.s.r om.d) 1), f.s.bufs, f.s.l⟩⟩, n', { h with ry := (osSet h.ry (om.d.toNat * 1 + 0) (.int .u64 (ar .add .u64 (regAt f.s.r om.d) 1))) }), ⟨hgo', hg.put hdm.1, by simp only [putR_len]; exact hR, hB, by simp only; omega⟩, by simp only; omega, hs.lessD 2 rfl (lk_cons rfl (lk_cons rfl (lk_cons rfl (lk_cons rfl (lk_cons rfl (fun _ _ h => lk_nil h))))))⟩
          | false =>
            rw [hcl, if_neg (by simp)] at hfs
            obtain ⟨n', rfl, hgo'⟩ : ∃ q, n = q + 1 ∧ Goes os ⟨f.pc + 1, f.first, f.s⟩ q (.inr x) := by
              rcases hgo.inv with h1 | ⟨g, q, e, h1, h2⟩
              · rw [hfs] at h1; cases h1
              · rw [hfs] at h1; cases h1; exact ⟨q, e, h2⟩
            repeat' (first | refine C.region ?_ | refine L.nil ?_ | refine L.move (k := ?_) | refine L.assign (k := ?_) | refine L.ar (c := ?_) | refine C.no (h1 := ?_) | refine D.blkNormal ?_ | refine C.skip ?_ | refine D.seqR (h := ?_))
            refine D.then_ fun a1 w1 hs => ⟨(⟨f.pc + 1, f.first, f.s⟩, n', h), ⟨hgo', hg, hR, hB, by simp only; omega⟩, by simp only; omega, hs.lessD 2 (by rw [hHp]; rfl) (lk_cons rfl (lk_cons rfl (lk_cons rfl (lk_cons rfl (lk_cons rfl (fun _ _ h => lk_nil h))))))⟩
        have k17 : cm .eql o.k 17 = false := cm_no h17
        have kD := do12_S xb regs vb vo bs os f.pc o f.s h ho0 hof h16 h17 hR hB hl hg
        rw [hHp]
        repeat' (first | refine C.seq ?_ | refine C.region ?_ | refine L.nil ?_ | refine D.seq ?_ | refine L.move (k := ?_) | refine L.assign (k := ?_) | refine L.cm (c := ?_) | refine L.fieldAddr (c := ?_) | refine L.load1 0 (c := ?_) | refine L.load1 1 (c := ?_) | refine L.storeV 0 (c := ?_) | refine L.alloc (c := fun _ => ?_) | refine C.yes (h1 := ?_) | refine C.no (h1 := ?_) | refine C.block ?_ | refine C.skip ?_ | refine L.lenR s2 (c := ?_) | refine L.indexR s2 hlt (c := ?_) | refine L.loadOA o2 (i := f.pc * 8) (ho := rfl) (hi := hal) (hcs := ha) (c := ?_))
        rename_i ob1
        rw [← hHp]
        refine L.callD 3 kD (hpre := fun w hw => hr.1.2.base hw (runHp xb regs vb vo f.s h) (fun x hx => by simp [hx])) (k := ?_)
        rintro u1 B1 hvB
        cases hstO : stepO o f.pc f.s with
        | none =>
          rw [hstO] at hvB
          obtain ⟨rfl, rfl⟩ := hvB
          have hend : fstep os f = .inr (f.s, false) := by unfold fstep; rw [if_pos hlt, hoe, k16, k17, hstO]; rfl
          have hxe : x = (f.s, false) := by
            rcases hgo.inv with h1 | ⟨g, m, _, h1, _⟩
            · rw [hend] at h1; cases h1; rfl
            · rw [hend] at h1; cases h1
          unfold shut
          simp only [List.take_succ_cons, List.take_zero, List.take_nil, List.cons_append, List.nil_append]
          rw [hHp]
          repeat' (first | refine C.quiet (h := ?_) | refine C.seq ?_ | refine L.nil ?_ | refine D.seq ?_ | refine L.move (k := ?_) | refine L.assign (k := ?_) | refine L.fieldAddr (c := ?_) | refine L.load1 3 (c := ?_) | refine L.nilCheck (k := ?_) | refine C.yes (h1 := ?_) | refine L.not (c := ?_) | refine C.ret ?_ | refine D.thenRet ?_ | refine D.blkRet ?_ | refine D.seqR (h := ?_) | exact D.endsQ | refine QL.fin ?_ | (refine QL.step (v := ?_) (by exact rfl) (by exact rfl) ?_ ?_; rotate_left))
          refine D.ret (vs := [_, _, _]) (RV.tmp rfl (RV.tmp rfl (RV.tmp rfl RV.nil))) ?_
          intro w' hw
          have hw2 := hw.perm (M' := ((ob1, ob [.int .i64 o.k, .int .i64 o.d, .int .i64 o.e, .int .i64 o.a, .int .i64 o.b, .int .i64 o.c, .int .i64 o.buf, .int .u64 o.imm] 39) :: (eb, ob ((eRun os os.length).map int) 3) :: (pb, ob [.int .i64 regs, vb, vo] 25) :: (xb, ob [.int .i64 regs, vb, vo, rv, bv, lv] 88) :: (osC 37 h.ry [] ++ (osC 47 h.y [] ++ rowsHp h.ys))) ++ osC 55 h.ly []) (List.Perm.of_eq (by simp))
          refine Post.mkD _ hw2 List.drop_left ?_
          unfold run12R
          rw [if_neg (by omega), if_neg hst, if_neg (by rw [hro]; simp)]
          refine ⟨n0, x, h, hn0, by rw [hxe]; exact hg, .inr ⟨by rw [hxe], ?_, rfl⟩⟩
          rw [hxe, hlv]
        | some s' =>
          rw [hstO] at hvB
          obtain ⟨h', hg', rfl, rfl⟩ := hvB
          have hstep : fstep os f = .inl ⟨f.pc + 1, f.first, s'⟩ := by unfold fstep; rw [if_pos hlt, hoe, k16, k17, hstO]; rfl
          obtain ⟨n', rfl, hgo'⟩ : ∃ m, n = m + 1 ∧ Goes os ⟨f.pc + 1, f.first, s'⟩ m (.inr x) := by
            rcases hgo.inv with h1 | ⟨g, m, e, h1, h2⟩
            · rw [hstep] at h1; cases h1
            · rw [hstep] at h1; cases h1; exact ⟨m, e, h2⟩
          have hkp := stepO_keep hof hstO
          have hke := (stepO_ev hstO).2.1
          unfold shut
          simp only [List.take_succ_cons, List.take_zero, List.take_nil, List.cons_append, List.nil_append]
          repeat' (first | refine C.region ?_ | refine L.nil ?_ | refine L.move (k := ?_) | refine L.assign (k := ?_) | refine L.ar (c := ?_) | refine C.no (h1 := ?_) | refine L.not (c := ?_) | refine D.blkNormal ?_ | refine C.skip ?_ | refine D.seqR (h := ?_))
          refine D.then_ fun a1 w1 hs => ⟨(⟨f.pc + 1, f.first, s'⟩, n', h'), ⟨hgo', hg', by simp only; rw [hkp.1, hR], by simp only; rw [hke, hB], by simp only; omega⟩, by simp only; omega, hs.lessD 1 rfl (lk_cons rfl (lk_cons rfl (lk_cons rfl (lk_cons rfl (lk_cons rfl (fun _ _ h => lk_nil h))))))⟩
      · have k1 : cm .lss (f.pc : Int) os.length = false := cm_lo' (by omega)
        have hend : fstep os f = .inr (f.s, true) := by unfold fstep; rw [if_neg (by omega)]
        have hxe : x = (f.s, true) := by
          rcases hgo.inv with h1 | ⟨g, m, _, h1, _⟩
          · rw [hend] at h1; cases h1; rfl
          · rw [hend] at h1; cases h1
        rw [hHp]
        repeat' (first | refine C.seq ?_ | refine C.region ?_ | refine L.nil ?_ | refine D.seq ?_ | refine L.move (k := ?_) | refine L.assign (k := ?_) | refine L.cm (c := ?_) | refine L.fieldAddr (c := ?_) | refine L.load1 1 (c := ?_) | refine L.load1 2 (c := ?_) | refine L.nilCheck (k := ?_) | refine C.no (h1 := ?_) | refine C.ret ?_ | refine C.exit ?_ | refine D.thenExit ?_ | refine D.blkExit ?_ | refine D.seqR (h := ?_) | exact D.endsQ | refine QL.fin ?_ | (refine QL.step (v := ?_) (by exact rfl) (by exact rfl) ?_ ?_; rotate_left) | refine L.lenR s2 (c := ?_) | refine C.quiet (h := ?_))
        refine D.ret (vs := [_, _, _]) (RV.tmp rfl (RV.tmp rfl (RV.tmp rfl RV.nil))) ?_
        intro w' hw
        have hw2 := hw.perm (M' := ((eb, ob ((eRun os os.length).map int) 3) :: (pb, ob [.int .i64 regs, vb, vo] 25) :: (xb, ob [.int .i64 regs, vb, vo, rv, bv, lv] 88) :: osC 37 h.ry []) ++ (osC 47 h.y [] ++ (rowsHp h.ys ++ osC 55 h.ly []))) (List.Perm.of_eq (by simp))
        refine Post.mkD _ hw2 List.drop_left ?_
        unfold run12R
        rw [if_neg (by omega), if_neg hst, if_neg (by rw [hro]; simp)]
        refine ⟨n0, x, h, hn0, by rw [hxe]; exact hg, .inl ⟨by rw [hxe], ?_, rfl⟩⟩
        rw [hxe, hbv, hlv]
end Go.Proofs.Ytkjlgapkcdcmgaa
