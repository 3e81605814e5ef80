/- limb.Run. -/
import Derived.Test.YtkjlgapkcdcmgaaLm4
import Derived.Test.YtkjlgapkcdcmgaaLmB
import Derived.Test.YtkjlgapkcdcmgaaLk37
set_option linter.unusedVariables false
set_option linter.unusedSimpArgs false
namespace Go.Proofs.Ytkjlgapkcdcmgaa
open Go Go.RowKit SL
attribute [local irreducible] SL.L SL.C SL.D SL.N SL.H SL.QL SL.QW SL.QP

def initL (bs : List Bf) (rs : Rws) : RS := ⟨List.replicate 64 0, initB bs rs, []⟩
/-- What limb.Run answers. -/
def lrunR (regs : Int) (bs : List Bf) (os : List Lop) (rs : Rws) (u : Value) (B : Hp) : Prop :=
  if (checkM regs bs os).2 ≠ 0 then u = shut [nilV, nilV, .int .i64 (checkM regs bs os).2] ∧ B = []
  else if 16777216 < stepsM os then u = shut [nilV, nilV, .int .i64 10] ∧ B = []
  else if rowsM bs rs = false then u = shut [nilV, nilV, .int .i64 2] ∧ B = []
  else ∃ p x h, os = Pg.flat p ∧ p.Safe regs bs [] ∧ p.exec 0 (initL bs rs) = x ∧ LRun x.1 h ∧ x.1.bufs.length = bs.length ∧
    ((x.2 = true ∧ u = shut [osV x.1.bufs.length h.y, osV x.1.l.length h.ly, .int .i64 0] ∧ B = osC 47 h.y [] ++ (rowsHp h.ys ++ osC 55 h.ly [])) ∨
     (x.2 = false ∧ u = shut [nilV, osV x.1.l.length h.ly, .int .i64 11] ∧ B = osC 55 h.ly []))
theorem initB_rng {bs : List Bf} {rs : Rws} (h : ∀ r ∈ rs, RngR r.2) : ∀ row ∈ initB bs rs, RngR row := by
  intro row hrow
  unfold initB at hrow
  obtain ⟨x, hx, rfl⟩ := List.mem_map.1 hrow
  intro v hv
  unfold initRow at hv
  rcases List.mem_append.1 hv with h1 | h1
  · exact h x.2 (List.of_mem_zip hx).2 v h1
  · rw [List.mem_replicate] at h1; rw [h1.2]; exact ⟨by omega, by omega⟩
theorem rn_zero (regs : Int) (vb vo ev bv lv : Value) : rnC regs vb vo ev (List.replicate 64 0) bv lv = [.int .i64 regs, vb, vo, ev] ++ (List.replicate 64 (.int .u64 0) ++ [bv, lv]) := by
  unfold rnC; rw [List.map_replicate]; rfl
theorem rn_hsetB (a b : Nat × Obj) (Z : Hp) (xb : Nat) (regs : Int) (vb vo ev : Value) {r : List Int} (bv lv : Value) (T : Nat) (v : Value) (h : r.length = 64) : hset (a :: b :: (xb, ob (rnC regs vb vo ev r bv lv) T) :: Z) 2 (ob ((rnC regs vb vo ev r bv lv).set 68 v) T) = a :: b :: (xb, ob (rnC regs vb vo ev r v lv) T) :: Z := by
  simp only [hset]; rw [rn_setB h]
set_option maxRecDepth 100000 in
set_option maxHeartbeats 8000000 in
theorem lrun_S (regs : Int) (vb vo v : Value) (bs : List Bf) (os : List Lop) (rs : Rws) (hbl : bs.length ≤ maxLen) (hI : ∀ o ∈ os, W64 o.imm) (hrs : ∀ r ∈ rs, RngR r.2) : Ctr Try.prog 33 [progV regs vb vo, v] []
    (fun w => (Rd w [] vb bs.length (bs.flatMap encB) ∧ Rd w [] vo os.length (os.flatMap encO)) ∧ RdR w [] v rs) (lrunR regs bs os rs) := by
  refine Ctr.enter Try.func33 Try.ntmps33 rfl rfl (fun w hr => ?_)
  have s1 := hr.1.1.1
  have s2 := hr.1.2.1
  have sv := hr.2.1.1
  unfold progV
  repeat' (first | refine C.seq ?_ | refine C.region ?_ | refine L.nil ?_ | refine D.seq ?_ | refine L.assign (k := ?_) | refine L.loadA 0 (c := ?_) | refine L.box (c := fun _ => ?_))
  rename_i pb
  refine L.callP [] (check_S regs vb vo bs os hbl) (hpre := fun w hw => ⟨hr.1.1.at hw, hr.1.2.at hw⟩) (k := ?_)
  rintro u0 B0 ⟨rfl, rfl⟩
  rw [hdrop_nil]
  unfold shut
  rw [List.nil_append]
  by_cases he : (checkM regs bs os).2 ≠ 0
  · have c2 : cm .neq (checkM regs bs os).2 0 = true := cm_ne he
    repeat' (first | refine C.seq ?_ | refine C.region ?_ | refine L.nil ?_ | refine D.seq ?_ | refine L.move (k := ?_) | refine L.assign (k := ?_) | refine L.cm (c := ?_) | refine L.extract (c := ?_) | refine C.yes (h1 := ?_) | refine C.ret ?_ | refine D.thenRet ?_)
    (refine D.ret (vs := [_, _, _]) (RV.tmp rfl (RV.tmp rfl (RV.tmp rfl RV.nil))) ?_; intro w' hw; exact Post.mk (is := []) hw List.nodup_nil rfl (by unfold lrunR; rw [if_pos he]; exact ⟨rfl, rfl⟩))
  replace he : (checkM regs bs os).2 = 0 := by omega
  have c1' : cm .neq (checkM regs bs os).2 0 = false := cm_ne' he
  obtain ⟨_, h0, h64, h32, hno, hh, hrf⟩ := check_ok he
  have kS := lsteps_S regs vb vo bs os hbl
  have hsr : stepsR regs bs os = stepsM os := by unfold stepsR; rw [if_pos he]
  rw [hsr] at kS
  by_cases hst : 16777216 < stepsM os
  · have c2 : cm .gtr (stepsM os) 16777216 = true := cm_gt hst
    repeat' (first | refine C.seq ?_ | refine C.region ?_ | refine L.nil ?_ | refine D.seq ?_ | refine L.move (k := ?_) | refine L.assign (k := ?_) | refine L.cm (c := ?_) | refine L.loadA 0 (c := ?_) | refine L.extract (c := ?_) | refine C.yes (h1 := ?_) | refine C.no (h1 := ?_) | refine C.block ?_ | refine C.ret ?_ | refine D.thenRet ?_ | refine D.blkRet ?_ | refine C.skip ?_ | refine L.callQ kS (hpre := fun w hw => ⟨hr.1.1.at hw, hr.1.2.at hw⟩) (k := ?_))
    (refine D.ret (vs := [_, _, _]) (RV.tmp rfl (RV.tmp rfl (RV.tmp rfl RV.nil))) ?_; intro w' hw; exact Post.mk (is := []) hw List.nodup_nil rfl (by unfold lrunR; rw [if_neg (by omega), if_pos hst]; exact ⟨rfl, rfl⟩))
  have c2 : cm .gtr (stepsM os) 16777216 = false := cm_gt' (by omega)
  have kR := lrows_S regs vb vo v bs rs (by omega)
  cases hro : rowsM bs rs with
  | false =>
    rw [hro] at kR
    repeat' (first | refine C.seq ?_ | refine C.region ?_ | refine L.nil ?_ | refine D.seq ?_ | refine L.move (k := ?_) | refine L.assign (k := ?_) | refine L.cm (c := ?_) | refine L.loadA 0 (c := ?_) | refine L.extract (c := ?_) | refine C.yes (h1 := ?_) | refine C.no (h1 := ?_) | refine L.not (c := ?_) | refine C.block ?_ | refine C.ret ?_ | refine D.thenRet ?_ | refine D.blkRet ?_ | refine C.skip ?_ | refine L.callQ kS (hpre := fun w hw => ⟨hr.1.1.at hw, hr.1.2.at hw⟩) (k := ?_) | refine L.callQ kR (hpre := fun w hw => ⟨hr.1.1.at hw, hr.2.at hw⟩) (k := ?_))
    (refine D.ret (vs := [_, _, _]) (RV.tmp rfl (RV.tmp rfl (RV.tmp rfl RV.nil))) ?_; intro w' hw; exact Post.mk (is := []) hw List.nodup_nil rfl (by unfold lrunR; rw [if_neg (by omega), if_neg hst, if_pos hro]; exact ⟨rfl, rfl⟩))
  | true =>
  rw [hro] at kR
  obtain ⟨hrl, hok⟩ := rows_ok hro
  have hsz := buf_size hh
  have hsk := stk_all he
  repeat' (first | refine C.make [(pb, ob [.int .i64 regs, vb, vo] 25)] (by kernel_rfl) (h := ?_) | refine C.seq ?_ | refine C.region ?_ | refine L.nil ?_ | refine D.seq ?_ | refine L.move (k := ?_) | refine L.assign (k := ?_) | refine L.cm (c := ?_) | refine L.loadA 0 (c := ?_) | refine L.extract (c := ?_) | refine C.no (h1 := ?_) | refine L.not (c := ?_) | refine C.block ?_ | refine D.blkNormal ?_ | refine C.skip ?_ | refine L.callQ kS (hpre := fun w hw => ⟨hr.1.1.at hw, hr.1.2.at hw⟩) (k := ?_) | refine L.callQ kR (hpre := fun w hw => ⟨hr.1.1.at hw, hr.2.at hw⟩) (k := ?_))
  iterate 2 ((refine QP.quiet (v := ?_) (by exact rfl) (by exact rfl) (fun w1 g1 => ?_) ?_; rotate_left); repeat (first | refine L.nil ?_ | refine L.loadA 0 (c := ?_) | exact D.endsQ))
  refine QP.mk0 [] (fun F B => ∃ eb, F = [(32, .slice (some ⟨eb, 0, none⟩) os.length os.length)] ∧ B = [(eb, ob ((eRun os os.length).map int) 3)]) (h := fun w1 g1 => ?_) (k := ?_)
  · rw [List.nil_append]
    refine L.callP [] (lends_S regs vb vo os hno hsk) (hpre := fun w2 hw => (hr.1.2.base g1 _ (fun _ h => h)).at hw) (k := ?_)
    rintro u B ⟨eb, rfl, rfl⟩
    rw [hdrop_nil]
    refine L.nil ?_
    exact D.endsP1 [_] (hR := ⟨eb, rfl, rfl⟩)
  refine QP.mk1 2 [] (fun F B => ∃ eb, F = [(33, .agg (rnC regs vb vo (.slice (some ⟨eb, 0, none⟩) os.length os.length) (List.replicate 64 0) nilV nilV).toArray)] ∧ B = [(eb, ob ((eRun os os.length).map int) 3)]) (h := ?_) (k := ?_)
  · rintro F B ⟨eb, rfl, rfl⟩ w1 g1
    simp only [List.cons_append, List.nil_append] at g1 ⊢
    repeat (first | refine L.nil ?_ | refine L.build (c := ?_))
    exact D.endsP1 [_] (hR := ⟨eb, rfl, rfl⟩)
  refine QP.mk1 3 [] (fun F B => ∃ xb eb, F = [(34, .pointer (some ⟨xb, 0, none⟩))] ∧ B = [(xb, ob (rnC regs vb vo (.slice (some ⟨eb, 0, none⟩) os.length os.length) (List.replicate 64 0) nilV nilV) 96), (eb, ob ((eRun os os.length).map int) 3)]) (h := ?_) (k := ?_)
  · rintro F B ⟨eb, rfl, rfl⟩ w1 g1
    simp only [List.cons_append, List.nil_append] at g1 ⊢
    repeat (first | refine L.nil ?_ | refine L.box (c := fun _ => ?_))
    exact D.endsP1 [_, _] (hR := ⟨_, _, rfl, rfl⟩)
  refine QP.mk1 4 [] (fun F B => ∃ xb eb, F = [(9, .pointer (some ⟨xb, 0, none⟩))] ∧ B = [(xb, ob (rnC regs vb vo (.slice (some ⟨eb, 0, none⟩) os.length os.length) (List.replicate 64 0) nilV nilV) 96), (eb, ob ((eRun os os.length).map int) 3)]) (h := ?_) (k := ?_)
  · rintro F B ⟨xb, eb, rfl, rfl⟩ w1 g1
    simp only [List.cons_append, List.nil_append] at g1 ⊢
    repeat (first | refine L.nil ?_ | refine L.assign (k := ?_))
    exact D.endsP1 [_, _] (hR := ⟨_, _, rfl, rfl⟩)
  refine QP.fin1 [none, none, some [], some [2], some [3], some [4]] 5 (nds := [[], [], [], [], [], []]) (hM := List.Perm.refl _) (k := ?_)
  rintro F B ⟨xb, eb, rfl, rfl⟩
  simp only [List.cons_append, List.nil_append]
  repeat' (first | refine C.seq ?_ | refine C.region ?_ | refine L.nil ?_ | refine D.seq ?_ | refine L.move (k := ?_) | refine L.fieldAddr (c := ?_) | refine L.load1 2 (c := ?_) | refine C.block ?_ | refine D.seqR (h := ?_) | refine L.lenR s1 (c := ?_))
  have hbl2 : (initB bs rs).length = bs.length := initB_len hrl
  refine C.perm (M' := (xb, ob (rnC regs vb vo (.slice (some ⟨eb, 0, none⟩) os.length os.length) (List.replicate 64 0) nilV nilV) 96) :: (pb, ob [.int .i64 regs, vb, vo] 25) :: (eb, ob ((eRun os os.length).map int) 3) :: []) (List.Perm.cons _ (List.Perm.swap _ _ _)) ?_
  refine C.loop (α := Nat × OS × List OS) (fun z => z.1 ≤ bs.length ∧ rowsG ((initB bs rs).take z.1) z.2.2 ∧ osG 1 z.1 (rowsV ((initB bs rs).take z.1) z.2.2) z.2.1)
    (fun z => [(1, v), (2, .pointer (some ⟨pb, 0, none⟩)), (9, .pointer (some ⟨xb, 0, none⟩)), (36, vb), (37, .int .i64 bs.length), (38, .int .i64 z.1)])
    (fun z => (xb, ob (rnC regs vb vo (.slice (some ⟨eb, 0, none⟩) os.length os.length) (List.replicate 64 0) (osV z.1 z.2.1) nilV) 96) :: (pb, ob [.int .i64 regs, vb, vo] 25) :: (eb, ob ((eRun os os.length).map int) 3) :: (osC 47 z.2.1 [] ++ rowsHp z.2.2)) (fun z => bs.length - z.1) (0, none, []) (fun a w hs => hs.lessE rfl (lk_cons rfl (lk_cons rfl (lk_cons rfl (lk_cons rfl (lk_cons rfl (lk_cons rfl (fun _ _ h => lk_nil h)))))))) ⟨Nat.zero_le _, ⟨rfl, fun i l y h => by simp at h⟩, osG.nil⟩ ?_
  rintro ⟨i, y, ys⟩ ⟨hi, hR, hG⟩
  simp only at hi hR hG ⊢
  have hyl : ys.length = i := by rw [hR.1]; simp; omega
  have hz64 : (List.replicate 64 (0 : Int)).length = 64 := by simp
  rcases Nat.lt_or_ge i bs.length with hlt | hge
  · have k1 : cm .lss (i : Int) bs.length = true := cm_lo (by omega)
    have k2 : ar .add .i64 (i : Int) 1 = ((i + 1 : Nat) : Int) := wrap_nat (by omega)
    obtain ⟨b, hb⟩ : ∃ b, bs[i]? = some b := ⟨_, List.getElem?_eq_getElem hlt⟩
    obtain ⟨r, hy⟩ : ∃ r, rs[i]? = some r := ⟨_, List.getElem?_eq_getElem (by omega)⟩
    have hlv : i < rs.length := by omega
    have o1 := hr.1.1.2 (by omega)
    have o2 := hr.2.1.2 (by omega)
    have hrr := hr.2.2 r (List.mem_of_getElem? hy)
    obtain ⟨hA0, hal⟩ := flat_at encB_len hb
    have hA := hA0.trans (encB_ex b)
    have hbz := hsz b (List.mem_of_getElem? hb)
    have hle := okRow_le (hok i b r hb hy) hbz.1
    have hbi : b.size = (b.size.toNat : Int) := by omega
    repeat' (first | refine C.seq ?_ | refine C.region ?_ | refine L.nil ?_ | refine D.seq ?_ | refine L.move (k := ?_) | refine L.assign (k := ?_) | refine L.cm (c := ?_) | refine L.fieldAddr (c := ?_) | refine L.load1 0 (c := ?_) | refine L.storeV 0 (c := ?_) | refine L.alloc (c := fun _ => ?_) | refine C.yes (h1 := ?_) | refine C.block ?_ | refine C.skip ?_ | refine L.indexR s1 hlt (c := ?_) | refine L.loadOA o1 (i := i * 3) (ho := rfl) (hi := hal) (hcs := hA) (c := ?_) | refine L.makeZ (m := b.size.toNat) hbi (by omega) (by unfold maxLen; omega) (c := fun rb => ?_) | refine L.indexR sv hlv (c := ?_) | refine L.loadF o2 (enc_at (enc := Prod.fst) hy) (c := ?_))
    rename_i bb
    have hones : (r.2.map u64).all oneB = true := by simp [oneB]
    have hsetl : setL (List.replicate b.size.toNat (.int .u64 0)) 0 (r.2.map u64) = (initRow b r.2).map u64 := initRow_map hle
    refine L.copyK 0 (hi := rfl) (fun w hw => hrr.at hw) (by simp) hones hle (by simp) (M' := (rb, ob ((initRow b r.2).map u64) 37) :: (bb, ob [.int .i64 b.size, .int .i64 b.kind, .bool b.sec] 33) :: (xb, ob (rnC regs vb vo (.slice (some ⟨eb, 0, none⟩) os.length os.length) (List.replicate 64 0) (osV i y) nilV) 96) :: (pb, ob [.int .i64 regs, vb, vo] 25) :: (eb, ob ((eRun os os.length).map int) 3) :: (osC 47 y [] ++ rowsHp ys)) (hM := by simp only [hset, hsetl]) (c := ?_)
    refine L.nil ?_
    refine D.seq ?_
    refine C.perm (M' := (bb, ob [.int .i64 b.size, .int .i64 b.kind, .bool b.sec] 33) :: (xb, ob (rnC regs vb vo (.slice (some ⟨eb, 0, none⟩) os.length os.length) (List.replicate 64 0) (osV i y) nilV) 96) :: (pb, ob [.int .i64 regs, vb, vo] 25) :: (eb, ob ((eRun os os.length).map int) 3) :: (rb, ob ((initRow b r.2).map u64) 37) :: (osC 47 y [] ++ rowsHp ys)) (perm_by (fun kk => match kk with | 0 => [(bb, ob [.int .i64 b.size, .int .i64 b.kind, .bool b.sec] 33), (xb, ob (rnC regs vb vo (.slice (some ⟨eb, 0, none⟩) os.length os.length) (List.replicate 64 0) (osV i y) nilV) 96), (pb, ob [.int .i64 regs, vb, vo] 25), (eb, ob ((eRun os os.length).map int) 3)] | 1 => [(rb, ob ((initRow b r.2).map u64) 37)] | _ => (osC 47 y [] ++ rowsHp ys)) [0, 1, 2] [1, 0, 2] (by simp) (by simp)) ?_
    repeat' (first | refine C.region ?_ | refine L.move (k := ?_) | refine L.fieldAddr (c := ?_) | refine L.load1 1 (c := ?_) | refine L.nilCheck (k := ?_) | refine L.buildS (c := fun _ => ?_) | refine L.loadK 1 (rn_bufs hz64) rfl (c := ?_))
    rename_i tb
    have hil := initRow_len hle
    have hyi : osG 1 (initRow b r.2).length ((initRow b r.2).map u64) (some (rb, (initRow b r.2).map u64, b.size.toNat)) := ⟨by rw [List.length_map, hil, Nat.mul_one], by omega, by unfold maxLen; omega, by rw [Nat.mul_one, List.take_of_length_le (by simp)]⟩
    have hB1 : (initB bs rs).take (i + 1) = (initB bs rs).take i ++ [initRow b r.2] := by rw [List.take_add_one, initB_at hb hy]; rfl
    have h68 : 68 < (rnC regs vb vo (.slice (some ⟨eb, 0, none⟩) os.length os.length) (List.replicate 64 0) (osV i y) nilV).length := by rw [rn_len hz64]; decide
    refine L.appendU [(tb, ob [.slice (some ⟨rb, 0, none⟩) b.size.toNat b.size.toNat] 47), (bb, ob [.int .i64 b.size, .int .i64 b.kind, .bool b.sec] 33), (xb, ob (rnC regs vb vo (.slice (some ⟨eb, 0, none⟩) os.length os.length) (List.replicate 64 0) (osV i y) nilV) 96), (pb, ob [.int .i64 regs, vb, vo] 25), (eb, ob ((eRun os os.length).map int) 3), (rb, ob ((initRow b r.2).map u64) 37)] (L2 := rowsHp ys) (u := .slice (some ⟨tb, 0, none⟩) 1 1) (k := 1) (news := [.slice (some ⟨rb, 0, none⟩) b.size.toNat b.size.toNat]) hG (by rw [osC_app 47 y (rowsHp ys)]; rfl) (fun w hw => Rd.own (hw.holds _ List.mem_cons_self) (by simp) (Nat.le_refl _) 1 rfl) rfl (by intro u hu; simp at hu; subst hu; rfl) (by unfold maxLen; omega) (by omega) (c := fun y2 hG2 _ => ?_)
    repeat' (first | refine L.storeK 2 h68 rfl (hc := osV_cells _ _) (h1 := oneB_os _ _) (hM := rn_hsetB _ _ _ xb regs vb vo _ _ _ _ _ hz64) (c := ?_) | refine C.region ?_ | refine L.nil ?_ | refine D.seq ?_ | refine L.move (k := ?_) | refine L.ar (c := ?_) | refine L.fieldAddr (c := ?_) | refine L.nilCheck (k := ?_) | refine D.blkNormal ?_)
    refine D.perm (M' := (tb, ob [.slice (some ⟨rb, 0, none⟩) b.size.toNat b.size.toNat] 47) :: (bb, ob [.int .i64 b.size, .int .i64 b.kind, .bool b.sec] 33) :: (xb, ob (rnC regs vb vo (.slice (some ⟨eb, 0, none⟩) os.length os.length) (List.replicate 64 0) (osV (i + 1) y2) nilV) 96) :: (pb, ob [.int .i64 regs, vb, vo] 25) :: (eb, ob ((eRun os os.length).map int) 3) :: (osC 47 y2 [] ++ rowsHp (ys ++ [some (rb, (initRow b r.2).map u64, b.size.toNat)]))) ?_ ?_
    · rw [show rowsHp (ys ++ [some (rb, (initRow b r.2).map u64, b.size.toNat)]) = rowsHp ys ++ [(rb, ob ((initRow b r.2).map u64) 37)] by simp [rowsHp, osC]]
      show List.Perm _ ((tb, ob [.slice (some ⟨rb, 0, none⟩) b.size.toNat b.size.toNat] 47) :: (bb, ob [.int .i64 b.size, .int .i64 b.kind, .bool b.sec] 33) :: (xb, ob (rnC regs vb vo (.slice (some ⟨eb, 0, none⟩) os.length os.length) (List.replicate 64 0) (osV (i + 1) y2) nilV) 96) :: (pb, ob [.int .i64 regs, vb, vo] 25) :: (eb, ob ((eRun os os.length).map int) 3) :: (rb, ob ((initRow b r.2).map u64) 37) :: osC 47 y2 (rowsHp ys))
      rw [osC_app 47 y2 (rowsHp ys)]
      exact perm_by (fun kk => match kk with | 0 => [(tb, ob [.slice (some ⟨rb, 0, none⟩) b.size.toNat b.size.toNat] 47), (bb, ob [.int .i64 b.size, .int .i64 b.kind, .bool b.sec] 33), (xb, ob (rnC regs vb vo (.slice (some ⟨eb, 0, none⟩) os.length os.length) (List.replicate 64 0) (osV (i + 1) y2) nilV) 96), (pb, ob [.int .i64 regs, vb, vo] 25), (eb, ob ((eRun os os.length).map int) 3)] | 1 => [(rb, ob ((initRow b r.2).map u64) 37)] | 2 => osC 47 y2 [] | _ => rowsHp ys) [0, 2, 3, 1] [0, 1, 2, 3] (by simp) (by simp)
    refine D.then_ fun a1 w1 hs => ⟨(i + 1, y2, ys ++ [some (rb, (initRow b r.2).map u64, b.size.toNat)]), ⟨by omega, ?_, ?_⟩, by simp only; omega, hs.lessD 2 rfl (lk_cons rfl (lk_cons rfl (lk_cons rfl (lk_cons rfl (lk_cons rfl (lk_cons rfl (fun _ _ h => lk_nil h)))))))⟩
    · rw [hB1]; exact rowsG_snoc hR hyi
    · rw [hB1]; simp only; rw [rowsV_snoc hR.1, hil]; exact hG2
  · have k1 : cm .lss (i : Int) bs.length = false := cm_lo' (by omega)
    have hil : i = bs.length := by omega
    subst hil
    rw [List.take_of_length_le (by omega)] at hR hG
    obtain ⟨p, hp, hpS, _⟩ := goes_all he
    obtain ⟨x, hx⟩ : ∃ x, p.exec 0 (initL bs rs) = x := ⟨_, rfl⟩
    have hcn := cnt_steps hpS (by rw [← hp]; omega)
    rw [← hp] at hcn
    have hg0 : LRun (initL bs rs) ⟨none, y, ys, none⟩ := ⟨by simp [initL], fun q hq => by simp [initL] at hq; rw [hq]; exact ⟨by omega, by omega⟩, hR, initB_rng hrs, by show osG 1 (initB bs rs).length _ _; rw [hbl2]; exact hG, osG.nil⟩
    have hM0 : lrHp xb regs vb vo (.slice (some ⟨eb, 0, none⟩) os.length os.length) (initL bs rs) ⟨none, y, ys, none⟩ = (xb, ob (rnC regs vb vo (.slice (some ⟨eb, 0, none⟩) os.length os.length) (List.replicate 64 0) (osV bs.length y) nilV) 96) :: (osC 47 y [] ++ rowsHp ys) := by
      unfold lrHp
      simp [initL, osV, osC, hbl2]
    have kD := ldo_S xb regs vb vo (.slice (some ⟨eb, 0, none⟩) os.length os.length) bs os h64 hno hI hsk p.flat.length p [] 0 [] (initL bs rs) ⟨none, y, ys, none⟩ (Nat.le_refl _) hpS (by rw [hp]; simp) hbl2 (by show 0 + p.cnt ≤ _; omega) hg0
    rw [hx, Nat.zero_add, ← hp] at kD
    repeat' (first | refine C.seq ?_ | refine C.region ?_ | refine L.nil ?_ | refine D.seq ?_ | refine L.move (k := ?_) | refine L.cm (c := ?_) | refine L.fieldAddr (c := ?_) | refine L.load1 1 (c := ?_) | refine C.no (h1 := ?_) | refine C.exit ?_ | refine D.thenExit ?_ | refine D.blkExit ?_ | refine D.seqR (h := ?_) | refine L.lenR s2 (c := ?_))
    refine L.perm (M' := (eb, ob ((eRun os os.length).map int) 3) :: (pb, ob [.int .i64 regs, vb, vo] 25) :: lrHp xb regs vb vo (.slice (some ⟨eb, 0, none⟩) os.length os.length) (initL bs rs) ⟨none, y, ys, none⟩) ?_ ?_
    · rw [hM0]; exact perm_by (fun kk => match kk with | 0 => [(eb, ob ((eRun os os.length).map int) 3)] | 1 => [(pb, ob [.int .i64 regs, vb, vo] 25)] | 2 => [(xb, ob (rnC regs vb vo (.slice (some ⟨eb, 0, none⟩) os.length os.length) (List.replicate 64 0) (osV bs.length y) nilV) 96)] | _ => (osC 47 y [] ++ rowsHp ys)) [0, 1, 2, 3] [2, 1, 0, 3] (by simp) (by simp)
    refine L.callD 2 kD (hpre := fun w1 hw => ⟨hr.1.2.base hw _ (fun x hx => by simp [hx]), Rd.own (hw.holds _ List.mem_cons_self) (by
      have := (List.nodup_cons.1 hw.nodup).1
      simp only [keys, List.map_cons, List.mem_cons, not_or] at this ⊢
      exact this.2) (Nat.le_refl _) os.length (by rw [List.take_of_length_le]; rw [List.length_map, eRun_len]; exact Nat.le_refl _)⟩) (k := ?_)
    rintro u1 B1 ⟨h', g', hB', rfl, rfl⟩
    unfold shut
    simp only [List.take_succ_cons, List.take_zero, List.take_nil, List.cons_append, List.nil_append]
    obtain ⟨bv, hbv⟩ : ∃ bv, osV x.1.bufs.length h'.y = bv := ⟨_, rfl⟩
    obtain ⟨lv, hlv⟩ : ∃ lv, osV x.1.l.length h'.ly = lv := ⟨_, rfl⟩
    have hr64 := g'.r
    rw [lrHp_eq xb regs vb vo (.slice (some ⟨eb, 0, none⟩) os.length os.length) x.1 h' hbv hlv]
    have fin : ∀ u B, ((x.2 = true ∧ u = shut [osV x.1.bufs.length h'.y, osV x.1.l.length h'.ly, .int .i64 0] ∧ B = osC 47 h'.y [] ++ (rowsHp h'.ys ++ osC 55 h'.ly [])) ∨
       (x.2 = false ∧ u = shut [nilV, osV x.1.l.length h'.ly, .int .i64 11] ∧ B = osC 55 h'.ly [])) → lrunR regs bs os rs u B := fun u B h => by
      unfold lrunR
      rw [if_neg (by omega), if_neg hst, if_neg (by rw [hro]; simp)]
      exact ⟨p, x, h', hp, hpS, hx, g', hB', h⟩
    rw [hbv, hlv] at fin
    cases hx2 : x.2 with
    | true =>
      rw [hx2] at fin
      repeat' (first | refine C.quiet (h := ?_) | refine C.seq ?_ | refine L.nil ?_ | refine D.seq ?_ | refine L.move (k := ?_) | refine L.assign (k := ?_) | refine L.fieldAddr (c := ?_) | refine L.nilCheck (k := ?_) | refine C.no (h1 := ?_) | refine L.not (c := ?_) | refine C.ret ?_ | refine C.skip ?_ | refine D.seqR (h := ?_) | exact D.endsQ | refine QL.fin ?_ | (refine QL.step (v := ?_) (by exact rfl) (by exact rfl) ?_ ?_; rotate_left) | refine L.loadK 2 (rn_bufs hr64) rfl (c := ?_) | refine L.loadK 2 (rn_l hr64) rfl (c := ?_))
      refine D.ret (vs := [_, _, _]) (RV.tmp rfl (RV.tmp rfl (RV.tmp rfl RV.nil))) ?_
      intro w' hw
      exact Post.mkD 3 hw rfl (fin _ _ (.inl ⟨rfl, rfl, rfl⟩))
    | false =>
      rw [hx2] at fin
      repeat' (first | refine C.quiet (h := ?_) | refine C.seq ?_ | refine L.nil ?_ | refine D.seq ?_ | refine L.move (k := ?_) | refine L.assign (k := ?_) | refine L.fieldAddr (c := ?_) | refine L.nilCheck (k := ?_) | refine C.yes (h1 := ?_) | refine L.not (c := ?_) | refine C.ret ?_ | refine D.thenRet ?_ | refine D.seqR (h := ?_) | exact D.endsQ | refine QL.fin ?_ | (refine QL.step (v := ?_) (by exact rfl) (by exact rfl) ?_ ?_; rotate_left) | refine L.loadK 2 (rn_bufs hr64) rfl (c := ?_) | refine L.loadK 2 (rn_l hr64) rfl (c := ?_))
      refine D.ret (vs := [_, _, _]) (RV.tmp rfl (RV.tmp rfl (RV.tmp rfl RV.nil))) ?_
      intro w' hw
      have hw2 := hw.perm (M' := ((eb, ob ((eRun os os.length).map int) 3) :: (pb, ob [.int .i64 regs, vb, vo] 25) :: (xb, ob (rnC regs vb vo (.slice (some ⟨eb, 0, none⟩) os.length os.length) x.1.r bv lv) 96) :: (osC 47 h'.y [] ++ rowsHp h'.ys)) ++ osC 55 h'.ly []) (List.Perm.of_eq (by simp))
      exact Post.mkD _ hw2 List.drop_left (fin _ _ (.inr ⟨rfl, rfl, rfl⟩))
end Go.Proofs.Ytkjlgapkcdcmgaa
