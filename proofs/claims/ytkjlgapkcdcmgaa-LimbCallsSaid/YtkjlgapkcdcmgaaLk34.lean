/- keysmithref12.Ends. -/
import Derived.Test.YtkjlgapkcdcmgaaLk33
set_option linter.unusedVariables false
set_option linter.unusedSimpArgs false
namespace Go.Proofs.Ytkjlgapkcdcmgaa
open Go Go.RowKit SL
attribute [local irreducible] SL.L SL.C SL.D SL.N SL.H SL.QL SL.QW SL.QP

theorem stk_le (os : List Lop) : ∀ i, (stkAt os i).length ≤ i
  | 0 => by simp [stkAt]
  | i + 1 => by
    rcases Nat.lt_or_ge i os.length with h | h
    · rw [stk_succ (opAt_lt h).1]; have := stk_le os i; unfold stkF; split
      · simp; omega
      · split
        · simp; omega
        · omega
    · have e : stkAt os (i + 1) = stkAt os i := by unfold stkAt; rw [List.take_of_length_le (by simp; omega), List.take_of_length_le (by simp; omega)]
      rw [e]; have := stk_le os i; omega
def estep (os : List Lop) (l : List Int) (i : Nat) : List Int := if cm .eql (opAt os i).k 17 then ((l.set i (-1)).set i (matchAt os i : Int)).set (matchAt os i) (i : Int) else l.set i (-1)
def eRun (os : List Lop) : Nat → List Int
  | 0 => List.replicate os.length 0
  | i + 1 => estep os (eRun os i) i
theorem eRun_len (os : List Lop) : ∀ i, (eRun os i).length = os.length
  | 0 => by simp [eRun]
  | i + 1 => by unfold eRun estep; split <;> simp [eRun_len os i]
/-- Ends tell the loop that an end belongs to. -/
theorem eRun_end {os : List Lop} {j : Nat} (hj : j < os.length) (hk : (opAt os j).k = 17) (hs : ∀ j, j < os.length → (opAt os j).k = 17 → stkAt os j ≠ []) : ∀ i, i ≤ os.length → j < i → (eRun os i)[j]? = some (matchAt os j : Int)
  | 0, _, h => by omega
  | i + 1, hi, h => by
    unfold eRun estep
    have mem : ∀ q, q < os.length → (opAt os q).k = 17 → matchAt os q ∈ stkAt os q := fun q hq h17 => by
      have hne := hs q hq h17
      unfold matchAt; rw [List.getLast?_eq_some_getLast hne]; exact List.getLast_mem hne
    rcases Nat.eq_or_lt_of_le (Nat.le_of_lt_succ h) with rfl | hlt
    · rw [if_pos (cm_yes hk)]
      have hm := stk_mem j (by omega) _ (mem j hj hk)
      rw [List.getElem?_set, if_neg (by omega), List.getElem?_set, if_pos rfl, if_pos (by simp [eRun_len]; exact hj)]
    · have ih := eRun_end hj hk hs i (by omega) hlt
      split
      · rename_i h17
        have h17 : (opAt os i).k = 17 := by simpa [cm] using h17
        have hm := stk_mem i (by omega) _ (mem i (by omega) h17)
        have hne : matchAt os i ≠ j := fun e => by rw [e] at hm; rw [hk] at hm; exact absurd hm.2 (by decide)
        rw [List.getElem?_set, if_neg hne, List.getElem?_set, if_neg (by omega), List.getElem?_set, if_neg (by omega), ih]
      · rw [List.getElem?_set, if_neg (by omega), ih]
theorem iset0 (eb : Nat) (l : List Int) (k : Nat) (v : Int) (Z : Hp) : hset ((eb, ob (l.map int) 3) :: Z) 0 (ob ((l.map int).set k (.int .i64 v)) 3) = (eb, ob ((l.set k v).map int) 3) :: Z := by
  simp only [hset]; rw [List.map_set]
set_option maxRecDepth 100000 in
set_option maxHeartbeats 8000000 in
theorem ends12_S (regs : Int) (vb vo : Value) (bs : List Bf) (os : List Lop) (he : (checkM regs bs os).2 = 0) (hsk : ∀ j, j < os.length → (opAt os j).k = 17 → stkAt os j ≠ []) : Ctr Try.prog 47 [progV regs vb vo] []
    (fun w => Rd w [] vb bs.length (bs.flatMap encB) ∧ Rd w [] vo os.length (os.flatMap encO)) (fun v B => ∃ eb, v = shut [.slice (some ⟨eb, 0, none⟩) os.length os.length] ∧ B = [(eb, ob ((eRun os os.length).map int) 3)]) := by
  refine Ctr.enter Try.func47 Try.ntmps47 rfl rfl (fun w hr => ?_)
  have s2 := hr.2.1
  have c1 : cm .neq (checkM regs bs os).2 0 = false := cm_ne' he
  obtain ⟨_, h0, h64, _, hno, hh, _⟩ := check_ok he
  unfold progV
  repeat' (first | refine C.seq ?_ | refine C.region ?_ | refine L.nil ?_ | refine D.seq ?_ | refine L.assign (k := ?_) | refine L.loadA 0 (c := ?_) | refine L.box (c := fun _ => ?_))
  rename_i pb
  refine L.callP [] (rcheck_S regs vb vo bs os) (hpre := fun w hw => ⟨hr.1.at hw, hr.2.at hw⟩) (k := ?_)
  rintro v B ⟨rfl, rfl⟩
  rw [hdrop_nil]
  unfold shut
  rw [List.nil_append]
  repeat' (first | refine C.seq ?_ | refine C.region ?_ | refine L.nil ?_ | refine D.seq ?_ | refine L.move (k := ?_) | refine L.assign (k := ?_) | refine L.cm (c := ?_) | refine L.fieldAddr (c := ?_) | refine L.load1 0 (c := ?_) | refine L.extract (c := ?_) | refine C.no (h1 := ?_) | refine C.skip ?_ | refine L.lenR s2 (c := ?_))
  refine L.makeZ (m := os.length) rfl (by omega) (by unfold maxLen; omega) (c := fun eb => ?_)
  repeat' (first | refine C.seq ?_ | refine C.region ?_ | refine L.nil ?_ | refine D.seq ?_ | refine L.assign (k := ?_) | refine C.block ?_)
  refine C.loop (α := Nat × OS) (fun x => x.1 ≤ os.length ∧ osG 1 (stkAt os x.1).length ((stkAt os x.1).map (fun (j : Nat) => int (j : Int))) x.2)
    (fun x => [(1, .pointer (some ⟨pb, 0, none⟩)), (5, .slice (some ⟨eb, 0, none⟩) os.length os.length), (6, osV (stkAt os x.1).length x.2), (7, .int .i64 x.1)])
    (fun x => (eb, ob ((eRun os x.1).map int) 3) :: (pb, ob [.int .i64 regs, vb, vo] 25) :: osC 3 x.2 []) (fun x => os.length - x.1) (0, none)
    (fun a w hs => hs.lessE (by simp [eRun, osC]) (lk_cons rfl (lk_cons rfl (lk_cons rfl (lk_cons rfl (fun _ _ h => lk_nil h)))))) ⟨Nat.zero_le _, osG.nil⟩ ?_
  rintro ⟨i, y⟩ ⟨hi, hG⟩
  simp only at hi hG ⊢
  rcases Nat.lt_or_ge i os.length with hlt | hge
  · have c2 : cm .lss (i : Int) os.length = true := cm_lo (by omega)
    obtain ⟨ho, hmem⟩ := opAt_lt hlt
    obtain ⟨o, hoe⟩ : ∃ o, opAt os i = o := ⟨_, rfl⟩
    rw [hoe] at ho hmem
    have hv0 := flat_get encO_len os i o ho 0 (by decide)
    have o2 := hr.2.2 (by omega)
    have c3 : ar .add .i64 (i : Int) 1 = ((i + 1 : Nat) : Int) := wrap_nat (by omega)
    have hst := stk_succ ho
    have hel := eRun_len os i
    have hz : 0 + i * 1 = i := by omega
    have hk1 : i < ((eRun os i).map int).length := by rw [List.length_map, hel]; exact hlt
    have hM1 := fun Z => iset0 eb (eRun os i) i (-1) Z
    by_cases h16 : o.k = 16
    · have k16 : cm .eql o.k 16 = true := cm_yes h16
      have k17 : cm .eql o.k 17 = false := cm_no (by omega)
      have her : eRun os (i + 1) = (eRun os i).set i (-1) := by
        show estep os (eRun os i) i = _; unfold estep; rw [hoe, k17]; rfl
      have hss : stkAt os (i + 1) = stkAt os i ++ [i] := by rw [hst]; unfold stkF; rw [if_pos k16]
      have hsl : (stkAt os i).length ≤ 65536 := by
        have : (stkAt os i).length ≤ i := stk_le os i
        omega
      repeat' (first | refine C.seq ?_ | refine C.region ?_ | refine L.nil ?_ | refine D.seq ?_ | refine L.move (k := ?_) | refine L.assign (k := ?_) | refine L.cm (c := ?_) | refine L.fieldAddr (c := ?_) | refine L.load1 1 (c := ?_) | refine C.yes (h1 := ?_) | refine C.block ?_ | refine C.skip ?_ | refine L.buildS (c := fun _ => ?_) | refine L.lenR s2 (c := ?_) | refine L.indexR s2 hlt (c := ?_) | refine L.loadF o2 hv0 (c := ?_) | refine L.lenR hG.sl (c := ?_) | refine L.indexP (k := i) (hi := rfl) (hk := hlt) (c := ?_) | refine L.storeK 0 hk1 hz (hM := hM1 _) (c := ?_))
      refine L.appendU [_, _, _] (u := .slice (some ⟨_, 0, none⟩) 1 1) (k := 1) (news := [int (i : Int)]) hG rfl (fun w hw => Rd.own (hw.holds _ List.mem_cons_self) (by simp) (Nat.le_refl _) 1 rfl) rfl (by intro u hu; simp at hu; subst hu; rfl) (by unfold maxLen; omega) (by omega) (c := fun y' hG' _ => ?_)
      repeat' (first | refine C.region ?_ | refine L.nil ?_ | refine D.seq ?_ | refine L.move (k := ?_) | refine L.assign (k := ?_) | refine L.ar (c := ?_) | refine D.blkNormal ?_)
      refine D.then_ fun a1 w1 hs => ⟨(i + 1, y'), ⟨by omega, ?_⟩, by simp only; omega, ?_⟩
      · rw [hss]; simpa using hG'
      · refine hs.lessD 1 (by rw [her]; rfl) ?_
        rw [hss]
        simp only [List.length_append, List.length_singleton]
        exact (lk_cons rfl (lk_cons rfl (lk_cons rfl (lk_cons rfl (fun _ _ h => lk_nil h)))))
    have k16 : cm .eql o.k 16 = false := cm_no h16
    by_cases h17 : o.k = 17
    · have k17 : cm .eql o.k 17 = true := cm_yes h17
      have hne := hsk i hlt (by rw [hoe]; exact h17)
      have hpos := List.length_pos_iff.2 hne
      obtain ⟨k, hk⟩ : ∃ k, (stkAt os i).length = k + 1 := ⟨(stkAt os i).length - 1, by omega⟩
      have hmm : (stkAt os i)[k]? = some (matchAt os i) := by
        unfold matchAt
        rw [List.getLast?_eq_getElem?, show (stkAt os i).length - 1 = k by omega, List.getElem?_eq_getElem (by omega)]; rfl
      have hcell : ((stkAt os i).map (fun (j : Nat) => int (j : Int)))[k * 1 + 0]? = some (.int .i64 (matchAt os i : Int)) := by
        rw [Nat.mul_one, Nat.add_zero, List.getElem?_map, hmm]; rfl
      have hml := (stk_mem i hi _ (List.mem_of_getElem? hmm)).1
      have hsl : (stkAt os i).length ≤ i := stk_le os i
      have c4 : ar .sub .i64 ((stkAt os i).length : Int) 1 = (k : Int) := by
        show IntKind.i64.wrap _ = _
        rw [wrap_nat (by omega)]; omega
      have hkl : k < (stkAt os i).length := by omega
      have her : eRun os (i + 1) = (((eRun os i).set i (-1)).set i (matchAt os i : Int)).set (matchAt os i) (i : Int) := by
        show estep os (eRun os i) i = _; unfold estep; rw [hoe, k17]; rfl
      have hss : stkAt os (i + 1) = (stkAt os i).dropLast := by rw [hst]; unfold stkF; rw [if_neg (by rw [k16]; simp), if_pos k17]
      have hk2 : i < (((eRun os i).set i (-1)).map int).length := by rw [List.length_map, List.length_set, hel]; exact hlt
      have hk3 : matchAt os i < ((((eRun os i).set i (-1)).set i (matchAt os i : Int)).map int).length := by rw [List.length_map, List.length_set, List.length_set, hel]; omega
      have hz3 : 0 + matchAt os i * 1 = matchAt os i := by omega
      have hmlt : matchAt os i < os.length := by omega
      have hM2 := fun Z => iset0 eb ((eRun os i).set i (-1)) i (matchAt os i : Int) Z
      have hM3 := fun Z => iset0 eb (((eRun os i).set i (-1)).set i (matchAt os i : Int)) (matchAt os i) (i : Int) Z
      repeat' (first | refine C.seq ?_ | refine C.region ?_ | refine L.nil ?_ | refine D.seq ?_ | refine L.move (k := ?_) | refine L.assign (k := ?_) | refine L.cm (c := ?_) | refine L.ar (c := ?_) | refine L.fieldAddr (c := ?_) | refine L.load1 1 (c := ?_) | refine C.yes (h1 := ?_) | refine C.no (h1 := ?_) | refine C.block ?_ | refine D.blkNormal ?_ | refine C.skip ?_ | refine L.lenR s2 (c := ?_) | refine L.indexR s2 hlt (c := ?_) | refine L.loadF o2 hv0 (c := ?_) | refine L.lenR hG.sl (c := ?_) | refine L.indexR hG.sl hkl (c := ?_) | refine L.indexP (k := i) (hi := rfl) (hk := hlt) (c := ?_) | refine L.indexP (k := matchAt os i) (hi := rfl) (hk := hmlt) (c := ?_) | refine L.storeK 0 hk1 hz (hM := hM1 _) (c := ?_) | refine L.storeK 0 hk2 hz (hM := hM2 _) (c := ?_) | refine L.storeK 0 hk3 hz3 (hM := hM3 _) (c := ?_) | refine L.loadU [_, _] (L2 := []) (i := k) (j := 0) hG rfl hkl (by decide) hcell (c := ?_) | refine L.cutU hG (k := k) (by omega) ⟨_, _, rfl, rfl⟩ (c := fun _ => ?_))
      refine D.then_ fun a1 w1 hs => ⟨(i + 1, y), ⟨by omega, ?_⟩, by simp only; omega, ?_⟩
      · rw [hss, List.length_dropLast, List.map_dropLast, List.dropLast_eq_take, List.length_map, hk]
        have := hG.cut (k := k) (by omega)
        simpa using this
      · refine hs.lessE (by rw [her]) ?_
        rw [hss, List.length_dropLast, hk]
        exact (lk_cons rfl (lk_cons rfl (lk_cons rfl (lk_cons rfl (fun _ _ h => lk_nil h)))))
    · have k17 : cm .eql o.k 17 = false := cm_no h17
      have her : eRun os (i + 1) = (eRun os i).set i (-1) := by
        show estep os (eRun os i) i = _; unfold estep; rw [hoe, k17]; rfl
      have hss : stkAt os (i + 1) = stkAt os i := by rw [hst]; unfold stkF; rw [if_neg (by rw [k16]; simp), if_neg (by rw [k17]; simp)]
      repeat' (first | refine C.seq ?_ | refine C.region ?_ | refine L.nil ?_ | refine D.seq ?_ | refine L.move (k := ?_) | refine L.assign (k := ?_) | refine L.cm (c := ?_) | refine L.ar (c := ?_) | refine L.fieldAddr (c := ?_) | refine L.load1 1 (c := ?_) | refine C.yes (h1 := ?_) | refine C.no (h1 := ?_) | refine C.block ?_ | refine D.blkNormal ?_ | refine C.skip ?_ | refine L.lenR s2 (c := ?_) | refine L.indexR s2 hlt (c := ?_) | refine L.loadF o2 hv0 (c := ?_) | refine L.lenR hG.sl (c := ?_) | refine L.indexP (k := i) (hi := rfl) (hk := hlt) (c := ?_) | refine L.storeK 0 hk1 hz (hM := hM1 _) (c := ?_))
      refine D.then_ fun a1 w1 hs => ⟨(i + 1, y), ⟨by omega, by rw [hss]; exact hG⟩, by simp only; omega, ?_⟩
      refine hs.lessE (by rw [her]) ?_
      rw [hss]
      exact (lk_cons rfl (lk_cons rfl (lk_cons rfl (lk_cons rfl (fun _ _ h => lk_nil h)))))
  · have c2 : cm .lss (i : Int) os.length = false := cm_lo' (by omega)
    have hil : i = os.length := by omega
    subst hil
    repeat' (first | refine C.seq ?_ | refine C.region ?_ | refine L.nil ?_ | refine D.seq ?_ | refine L.move (k := ?_) | refine L.assign (k := ?_) | refine L.cm (c := ?_) | refine L.fieldAddr (c := ?_) | refine L.load1 1 (c := ?_) | refine C.no (h1 := ?_) | refine C.ret ?_ | refine C.exit ?_ | refine D.thenExit ?_ | refine D.blkExit ?_ | refine D.seqR (h := ?_) | refine L.lenR s2 (c := ?_) | refine L.indexR s2 hlt (c := ?_) | refine L.loadF o2 hv0 (c := ?_) | refine L.lenR hG.sl (c := ?_))
    refine D.ret (vs := [_]) (RV.tmp rfl RV.nil) ?_
    intro w' hw
    exact Post.mk (is := [0]) hw (by decide) rfl ⟨eb, rfl, rfl⟩
end Go.Proofs.Ytkjlgapkcdcmgaa
