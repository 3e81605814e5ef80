/- keysmithref12.Steps. -/
import Derived.Test.YtkjlgapkcdcmgaaLk30
set_option linter.unusedVariables false
set_option linter.unusedSimpArgs false
namespace Go.Proofs.Ytkjlgapkcdcmgaa
open Go Go.RowKit SL
attribute [local irreducible] SL.L SL.C SL.D SL.N SL.H SL.QL SL.QW SL.QP

theorem SL.osG.cut {n m k : Nat} {cs : List Value} {o : OS} (hG : osG n m cs o) (hk : k ≤ m) : osG n k (cs.take (k * n)) o := by
  rcases o with _ | ⟨b, l, cap'⟩
  · obtain ⟨rfl, rfl⟩ := hG
    exact ⟨by omega, by simp⟩
  · obtain ⟨h1, h2, h3, h4⟩ := hG
    refine ⟨h1, by omega, h3, ?_⟩
    rw [← h4, List.take_take, Nat.min_eq_left (Nat.mul_le_mul_right _ hk)]
/-- The sum, sums of the loops around, their times. -/
abbrev SS := Int × List Int × List Int
def lastD (l : List Int) (d : Int) : Int := (l.getLast?).getD d
def capM (n : Int) : Int := if n < 1125899906842624 then n else 1125899906842624
def sstep (x : SS) (o : Lop) : SS :=
  if cm .eql o.k 16 then (1, x.2.1 ++ [x.1], x.2.2 ++ [o.imm])
  else if cm .eql o.k 17 then (capM ((if cm .gtr x.1 ((1125899906842624 : Int).tdiv (lastD x.2.2 1)) then 1125899906842624 else x.1 * lastD x.2.2 1) + lastD x.2.1 0), x.2.1.dropLast, x.2.2.dropLast)
  else (capM (x.1 + 1), x.2.1, x.2.2)
def stepsM (os : List Lop) : Int := (os.foldl sstep (0, [], [])).1
def stepsR (regs : Int) (bs : List Bf) (os : List Lop) : Int := if (checkM regs bs os).2 = 0 then stepsM os else 0
structure SOk (x : SS) (c : Ck) : Prop where
  l1 : x.2.1.length = c.loops.length
  l2 : x.2.2.length = c.loops.length
  s0 : 0 ≤ x.1 ∧ x.1 ≤ 1125899906842624
  s1 : ∀ u ∈ x.2.1, 0 ≤ u ∧ u ≤ 1125899906842624
  t : ∀ u ∈ x.2.2, 1 ≤ u ∧ u ≤ 1048576
theorem capM_le {n : Int} (h : 0 ≤ n) : 0 ≤ capM n ∧ capM n ≤ 1125899906842624 := by unfold capM; split <;> omega
theorem lastD_mem {l : List Int} {d : Int} (h : l ≠ []) : lastD l d ∈ l := by
  unfold lastD; rw [List.getLast?_eq_some_getLast h]; exact List.getLast_mem h
theorem loop_imm {regs : Int} {bs : List Bf} {o : Lop} (h : rfields regs bs o = true) (hk : o.k = 16) : 1 ≤ o.imm ∧ o.imm ≤ 1048576 := by
  obtain ⟨h1, h2⟩ := rf_bad h
  unfold rfields at h
  rw [if_neg (ne_true_of_eq_false h1), if_neg (ne_true_of_eq_false h2)] at h
  simp [mem, cm, hk] at h
  omega
theorem rstep_loops {regs : Int} {bs : List Bf} {c c' : Ck} {o : Lop} (h : rstep regs bs c o = .inr c') : rfields regs bs o = true ∧ (o.k = 16 → c'.loops.length = c.loops.length + 1) ∧ (o.k = 17 → c.loops ≠ [] ∧ c'.loops.length = c.loops.length - 1) ∧ (o.k ≠ 16 → o.k ≠ 17 → c'.loops.length = c.loops.length) := by
  unfold rstep at h
  cases hf : rfields regs bs o with
  | false => rw [hf] at h; cases h
  | true =>
  rw [hf] at h
  simp only [if_true] at h
  refine ⟨rfl, ?_⟩
  cases hk : cm .eql o.k 17 with
  | true =>
    have hk7 : o.k = 17 := by simpa [cm] using hk
    rw [hk] at h
    simp only [if_true] at h
    cases hg : c.loops.getLast? with
    | none => rw [hg] at h; cases h
    | some r =>
      rw [hg] at h
      cases h
      refine ⟨(fun e => by omega), (fun _ => ⟨(fun e => by rw [e] at hg; cases hg), by simp⟩), (fun _ e => absurd hk7 e)⟩
  | false =>
    have hk7 : o.k ≠ 17 := fun e => by simp [cm, e] at hk
    rw [hk] at h
    simp only [Bool.false_eq_true, if_false] at h
    split at h
    · cases h
    · split at h
      · cases h
      · split at h
        · cases h
        · split at h
          · cases h
          · cases h
            refine ⟨fun e => ?_, fun e => absurd e hk7, fun e _ => ?_⟩
            · simp only; rw [if_pos (cm_yes e)]; simp
            · simp only; rw [if_neg (by rw [cm_no e]; simp)]
theorem sstep_ok {regs : Int} {bs : List Bf} {x : SS} {c c' : Ck} {o : Lop} (h : SOk x c) (hs : rstep regs bs c o = .inr c') : SOk (sstep x o) c' := by
  obtain ⟨hf, g1, g2, g3⟩ := rstep_loops hs
  unfold sstep
  by_cases h16 : o.k = 16
  · rw [if_pos (cm_yes h16)]
    have := loop_imm hf h16
    refine ⟨by simp [h.l1, g1 h16], by simp [h.l2, g1 h16], by simp only; omega, fun u hu => ?_, fun u hu => ?_⟩
    · rcases List.mem_append.1 hu with hu | hu
      · exact h.s1 u hu
      · rw [List.mem_singleton] at hu; rw [hu]; exact h.s0
    · rcases List.mem_append.1 hu with hu | hu
      · exact h.t u hu
      · rw [List.mem_singleton] at hu; rw [hu]; exact this
  rw [if_neg (by rw [cm_no h16]; simp)]
  by_cases h17 : o.k = 17
  · rw [if_pos (cm_yes h17)]
    obtain ⟨e1, e2⟩ := g2 h17
    have hn := List.length_pos_iff.2 e1
    have m1 : x.2.1 ≠ [] := fun e => by have := h.l1; rw [e] at this; simp at this; omega
    have m2 : x.2.2 ≠ [] := fun e => by have := h.l2; rw [e] at this; simp at this; omega
    have b1 := h.s1 _ (lastD_mem (d := 0) m1)
    have b2 := h.t _ (lastD_mem (d := 1) m2)
    have b0 := h.s0
    refine ⟨by simp [h.l1, e2], by simp [h.l2, e2], ?_, fun u hu => h.s1 u ((List.dropLast_sublist _).mem hu), fun u hu => h.t u ((List.dropLast_sublist _).mem hu)⟩
    refine capM_le ?_
    split
    · omega
    · have := Int.mul_nonneg b0.1 (show (0 : Int) ≤ lastD x.2.2 1 by omega)
      omega
  · rw [if_neg (by rw [cm_no h17]; simp)]
    exact ⟨by rw [g3 h16 h17]; exact h.l1, by rw [g3 h16 h17]; exact h.l2, capM_le (by have := h.s0; omega), h.s1, h.t⟩
theorem fold_take {os : List Lop} {i : Nat} {o : Lop} (h : os[i]? = some o) (x : SS) : (os.take (i + 1)).foldl sstep x = sstep ((os.take i).foldl sstep x) o := by
  rw [List.take_add_one, h, List.foldl_append]; rfl
set_option maxRecDepth 100000 in
set_option maxHeartbeats 8000000 in
theorem steps12_S (regs : Int) (vb vo : Value) (bs : List Bf) (os : List Lop) : Ctr Try.prog 23 [progV regs vb vo] []
    (fun w => Rd w [] vb bs.length (bs.flatMap encB) ∧ Rd w [] vo os.length (os.flatMap encO)) (is (.int .i64 (stepsR regs bs os)) []) := by
  refine Ctr.enter Try.func23 Try.ntmps23 rfl rfl (fun w hr => ?_)
  have s2 := hr.2.1
  unfold progV
  repeat' (first | refine C.seq ?_ | refine C.region ?_ | refine L.nil ?_ | refine D.seq ?_ | refine L.assign (k := ?_) | refine L.loadA 0 (c := ?_) | refine L.box (c := fun _ => ?_))
  rename_i pb
  refine L.callP [] (rcheck_S regs vb vo bs os) (hpre := fun w hw => ⟨hr.1.at hw, hr.2.at hw⟩) (k := ?_)
  rintro v B ⟨rfl, rfl⟩
  rw [hdrop_nil]
  unfold shut
  rw [List.nil_append]
  by_cases he : (checkM regs bs os).2 ≠ 0
  · have c1 : cm .neq (checkM regs bs os).2 0 = true := cm_ne he
    repeat' (first | refine C.seq ?_ | refine C.region ?_ | refine L.nil ?_ | refine D.seq ?_ | refine L.move (k := ?_) | refine L.assign (k := ?_) | refine L.cm (c := ?_) | refine L.extract (c := ?_) | refine C.yes (h1 := ?_) | refine C.ret ?_ | refine D.thenRet ?_)
    (refine D.ret (vs := [_]) (RV.tmp rfl RV.nil) ?_; intro w' hw; exact Post.mk (is := []) hw List.nodup_nil rfl ⟨by unfold stepsR; rw [if_neg he]; rfl, rfl⟩)
  replace he : (checkM regs bs os).2 = 0 := by omega
  have c1 : cm .neq (checkM regs bs os).2 0 = false := cm_ne' he
  obtain ⟨_, h0, h64, _, hno, hh, _⟩ := check_ok he
  have hrun : (rrun regs bs os 0 ⟨List.replicate regs.toNat false, []⟩).2 = 0 := by
    have := he; unfold checkM at this; rw [hh] at this; exact this
  repeat' (first | refine C.seq ?_ | refine C.region ?_ | refine L.nil ?_ | refine D.seq ?_ | refine L.move (k := ?_) | refine L.assign (k := ?_) | refine L.cm (c := ?_) | refine L.extract (c := ?_) | refine C.no (h1 := ?_) | refine C.block ?_ | refine C.skip ?_)
  refine C.loop (α := Nat × SS × Ck × OS × OS) (fun y => y.1 ≤ os.length ∧ y.2.1 = (os.take y.1).foldl sstep (0, [], []) ∧ SOk y.2.1 y.2.2.1 ∧ y.2.2.1.loops.length ≤ 8 ∧ (rrun regs bs (os.drop y.1) y.1 y.2.2.1).2 = 0 ∧ osG 1 y.2.1.2.1.length (y.2.1.2.1.map int) y.2.2.2.1 ∧ osG 1 y.2.1.2.2.length (y.2.1.2.2.map int) y.2.2.2.2)
    (fun y => [(1, .pointer (some ⟨pb, 0, none⟩)), (5, osV y.2.1.2.1.length y.2.2.2.1), (6, .int .i64 y.2.1.1), (7, osV y.2.1.2.2.length y.2.2.2.2), (8, .int .i64 y.1)])
    (fun y => (pb, ob [.int .i64 regs, vb, vo] 25) :: (osC 3 y.2.2.2.1 [] ++ osC 3 y.2.2.2.2 [])) (fun y => os.length - y.1) (0, (0, [], []), ⟨List.replicate regs.toNat false, []⟩, none, none)
    (fun a w hs => hs.lessE rfl (lk_cons rfl (lk_cons rfl (lk_cons rfl (lk_cons rfl (lk_cons rfl (fun _ _ h => lk_nil h))))))) ⟨Nat.zero_le _, rfl, ⟨rfl, rfl, by simp only; omega, (fun u hu => by cases hu), (fun u hu => by cases hu)⟩, by simp, hrun, osG.nil, osG.nil⟩ ?_
  rintro ⟨i, x, c, y5, y7⟩ ⟨hi, hx, hS, hc8, hrn, hG5, hG7⟩
  simp only at hi hx hS hc8 hrn hG5 hG7 ⊢
  rcases Nat.lt_or_ge i os.length with hlt | hge
  · have c2 : cm .lss (i : Int) os.length = true := cm_lo (by omega)
    obtain ⟨o, ho⟩ : ∃ o, os[i]? = some o := ⟨_, List.getElem?_eq_getElem hlt⟩
    have hdr : os.drop i = o :: os.drop (i + 1) := by
      rw [List.drop_eq_getElem?_toList_append, ho]; rfl
    rw [hdr] at hrn
    unfold rrun at hrn
    cases hst : rstep regs bs c o with
    | inl e => rw [hst] at hrn; have := rstep_ne hst; simp only at hrn; omega
    | inr c' =>
    rw [hst] at hrn
    simp only at hrn
    obtain ⟨hf, l16, l17, l0⟩ := rstep_loops hst
    have hS' := sstep_ok hS hst
    have hx' := fold_take ho (0, [], [])
    rw [← hx] at hx'
    have hc8' := (rstep_inv hst).2.1 hc8
    have hv0 := flat_get encO_len os i o ho 0 (by decide)
    have hv7 := flat_get encO_len os i o ho 7 (by decide)
    have o2 := hr.2.2 (by omega)
    have c3 : ar .add .i64 (i : Int) 1 = ((i + 1 : Nat) : Int) := wrap_nat (by omega)
    have hs0 := hS.s0
    have hl1 := hS.l1
    have hl2 := hS.l2
    by_cases h16 : o.k = 16
    · have k16 : cm .eql o.k 16 = true := cm_yes h16
      have him := loop_imm hf h16
      have hcv : IntKind.i64.wrap o.imm = o.imm := wrap_nat (by omega)
      have hx2 : sstep x o = (1, x.2.1 ++ [x.1], x.2.2 ++ [o.imm]) := by unfold sstep; rw [if_pos k16]
      repeat' (first | refine C.make [(pb, ob [.int .i64 regs, vb, vo] 25)] (by kernel_rfl) (h := ?_) | refine C.seq ?_ | refine C.region ?_ | refine L.nil ?_ | refine D.seq ?_ | refine L.move (k := ?_) | refine L.assign (k := ?_) | refine L.cm (c := ?_) | refine L.fieldAddr (c := ?_) | refine L.load1 0 (c := ?_) | refine C.yes (h1 := ?_) | refine C.block ?_ | refine C.skip ?_ | refine L.lenR s2 (c := ?_) | refine L.indexR s2 hlt (c := ?_) | refine L.loadF o2 hv0 (c := ?_) | refine L.loadF o2 hv7 (c := ?_))
      iterate 2 ((refine QP.quiet (v := ?_) (by exact rfl) (by exact rfl) (fun w1 g1 => ?_) ?_; rotate_left); repeat (first | refine L.nil ?_ | refine L.move (k := ?_) | exact D.endsQ))
      refine QP.mk0 [] (fun F B => ∃ nb, F = [(37, .slice (some ⟨nb, 0, none⟩) 1 1)] ∧ B = [(nb, ob [int x.1] 3)]) (h := fun w1 g1 => ?_) (k := ?_)
      · rw [List.nil_append]
        repeat (first | refine L.nil ?_ | refine L.buildS (c := fun _ => ?_))
        exact D.endsP1 [_] (hR := ⟨_, rfl, rfl⟩)
      refine QP.mk1 2 (osC 3 y5 []) (fun F B => ∃ nb y', osG 1 (x.2.1.length + 1) (x.2.1.map int ++ [int x.1]) y' ∧ F = [(38, osV (x.2.1.length + 1) y')] ∧ B = (nb, ob [int x.1] 3) :: osC 3 y' []) (h := ?_) (k := ?_)
      · rintro F B ⟨nb, rfl, rfl⟩ w1 g1
        refine L.appendU [_] (L2 := [(pb, ob [.int .i64 regs, vb, vo] 25)]) (u := .slice (some ⟨nb, 0, none⟩) 1 1) (k := 1) (news := [int x.1]) hG5 (by rw [osC_app 3 y5 [(pb, ob [.int .i64 regs, vb, vo] 25)]]; try rfl) (fun w hw => Rd.own (hw.holds _ List.mem_cons_self) (by simp) (Nat.le_refl _) 1 rfl) rfl (by intro u hu; simp at hu; subst hu; rfl) (by unfold maxLen; omega) (by omega) (c := fun y' hG' _ => ?_)
        refine L.nil ?_
        exact D.endsP1 ((nb, ob [int x.1] 3) :: osC 3 y' []) (hM := by rw [osC_app 3 y' [(pb, ob [.int .i64 regs, vb, vo] 25)]]; try rfl) (hR := ⟨nb, y', hG', rfl, rfl⟩)
      iterate 8 ((refine QP.quiet (v := ?_) (by exact rfl) (by exact rfl) (fun w1 g1 => ?_) ?_; rotate_left); have o2' := (hr.2.base g1 _ (fun _ h => h)).2 (by omega); repeat (first | refine L.convI (hz := hcv) (c := ?_) | refine L.nil ?_ | refine L.move (k := ?_) | refine L.fieldAddr (c := ?_) | refine L.load1 0 (c := ?_) | exact D.endsQ | refine L.indexR s2 hlt (c := ?_) | refine L.loadF o2' hv7 (c := ?_)))
      refine QP.mk0 [] (fun F B => ∃ nb, F = [(47, .slice (some ⟨nb, 0, none⟩) 1 1)] ∧ B = [(nb, ob [int o.imm] 3)]) (h := fun w1 g1 => ?_) (k := ?_)
      · rw [List.nil_append]
        repeat (first | refine L.nil ?_ | refine L.buildS (c := fun _ => ?_))
        exact D.endsP1 [_] (hR := ⟨_, rfl, rfl⟩)
      refine QP.mk1 12 (osC 3 y7 []) (fun F B => ∃ nb y', osG 1 (x.2.2.length + 1) (x.2.2.map int ++ [int o.imm]) y' ∧ F = [(48, osV (x.2.2.length + 1) y')] ∧ B = (nb, ob [int o.imm] 3) :: osC 3 y' []) (h := ?_) (k := ?_)
      · rintro F B ⟨nb, rfl, rfl⟩ w1 g1
        refine L.appendU [_] (L2 := [(pb, ob [.int .i64 regs, vb, vo] 25)]) (u := .slice (some ⟨nb, 0, none⟩) 1 1) (k := 1) (news := [int o.imm]) hG7 (by rw [osC_app 3 y7 [(pb, ob [.int .i64 regs, vb, vo] 25)]]; try rfl) (fun w hw => Rd.own (hw.holds _ List.mem_cons_self) (by simp) (Nat.le_refl _) 1 rfl) rfl (by intro u hu; simp at hu; subst hu; rfl) (by unfold maxLen; omega) (by omega) (c := fun y' hG' _ => ?_)
        refine L.nil ?_
        exact D.endsP1 ((nb, ob [int o.imm] 3) :: osC 3 y' []) (hM := by rw [osC_app 3 y' [(pb, ob [.int .i64 regs, vb, vo] 25)]]; try rfl) (hR := ⟨nb, y', hG', rfl, rfl⟩)
      refine QP.mk1 3 [] (fun F B => ∃ nb y', osG 1 (x.2.1.length + 1) (x.2.1.map int ++ [int x.1]) y' ∧ F = [(5, osV (x.2.1.length + 1) y')] ∧ B = (nb, ob [int x.1] 3) :: osC 3 y' []) (h := ?_) (k := ?_)
      · rintro F B ⟨nb, y', hG', rfl, rfl⟩ w1 g1
        repeat (first | refine L.nil ?_ | refine L.assign (k := ?_))
        exact D.endsP1 ((nb, ob [int x.1] 3) :: osC 3 y' []) (hR := ⟨nb, y', hG', rfl, rfl⟩)
      refine QP.mk1 13 [] (fun F B => ∃ nb y', osG 1 (x.2.2.length + 1) (x.2.2.map int ++ [int o.imm]) y' ∧ F = [(7, osV (x.2.2.length + 1) y')] ∧ B = (nb, ob [int o.imm] 3) :: osC 3 y' []) (h := ?_) (k := ?_)
      · rintro F B ⟨nb, y', hG', rfl, rfl⟩ w1 g1
        repeat (first | refine L.nil ?_ | refine L.assign (k := ?_))
        exact D.endsP1 ((nb, ob [int o.imm] 3) :: osC 3 y' []) (hR := ⟨nb, y', hG', rfl, rfl⟩)
      refine QP.fin2E [(1, .pointer (some ⟨pb, 0, none⟩)), (8, .int .i64 i)] ?_ [none, none, some [], some [2], none, none, none, none, none, none, none, none, some [], some [12], some [3], some [13]] 14 15 (nds := [[], [], [], [], [], [], [], [], [], [], [], [], [], [], [], []]) (hM := ?_) (k := ?_)
      · exact lk_cons rfl (lk_cons rfl (fun _ _ h => lk_nil h))
      · show List.Perm _ ((osC 3 y5 [] ++ (osC 3 y7 [] ++ [])) ++ [(pb, ob [.int .i64 regs, vb, vo] 25)])
        rw [List.append_nil]
        exact List.perm_append_comm (l₁ := [(pb, ob [.int .i64 regs, vb, vo] 25)])
      rintro F1 B1 F2 B2 ⟨n5, z5, hZ5, rfl, rfl⟩ ⟨n7, z7, hZ7, rfl, rfl⟩
      refine D.perm (M' := (n5, ob [int x.1] 3) :: (n7, ob [int o.imm] 3) :: (pb, ob [.int .i64 regs, vb, vo] 25) :: (osC 3 z5 [] ++ osC 3 z7 [])) (perm_by (fun k => match k with | 0 => [(n5, ob [int x.1] 3)] | 1 => osC 3 z5 [] | 2 => [(n7, ob [int o.imm] 3)] | 3 => osC 3 z7 [] | _ => [(pb, ob [.int .i64 regs, vb, vo] 25)]) [0, 2, 4, 1, 3] [0, 1, 2, 3, 4] (by simp) (by simp)) ?_
      repeat' (first | refine C.region ?_ | refine L.nil ?_ | refine D.seq ?_ | refine L.move (k := ?_) | refine L.assign (k := ?_) | refine L.ar (c := ?_) | refine D.blkNormal ?_)
      refine D.then_ fun a1 w1 hs => ⟨(i + 1, sstep x o, c', z5, z7), ⟨by omega, hx'.symm, hS', hc8', hrn, ?_, ?_⟩, by simp only; omega, ?_⟩
      · rw [hx2]; simpa using hZ5
      · rw [hx2]; simpa using hZ7
      · refine hs.lessD 2 rfl ?_
        rw [hx2]
        simp only [List.length_append, List.length_singleton]
        exact (lk_cons rfl (lk_cons rfl (lk_cons rfl (lk_cons rfl (lk_cons rfl (fun _ _ h => lk_nil h))))))
    have k16 : cm .eql o.k 16 = false := cm_no h16
    by_cases h17 : o.k = 17
    · have k17 : cm .eql o.k 17 = true := cm_yes h17
      obtain ⟨e1, e2⟩ := l17 h17
      have hn := List.length_pos_iff.2 e1
      obtain ⟨k, hk⟩ : ∃ k, c.loops.length = k + 1 := ⟨c.loops.length - 1, by omega⟩
      have hk5 : k < x.2.1.length := by omega
      have hk7 : k < x.2.2.length := by omega
      have n5 : x.2.1 ≠ [] := fun e => by rw [e] at hk5; simp at hk5
      have n7 : x.2.2 ≠ [] := fun e => by rw [e] at hk7; simp at hk7
      have b1 := hS.s1 _ (lastD_mem (d := 0) n5)
      have b2 := hS.t _ (lastD_mem (d := 1) n7)
      have hu : (x.2.1.map int)[k * 1 + 0]? = some (.int .i64 (lastD x.2.1 0)) := int_at (by unfold lastD; rw [List.getLast?_eq_getElem?, show x.2.1.length - 1 = k by omega, List.getElem?_eq_getElem hk5]; rfl)
      have ht : (x.2.2.map int)[k * 1 + 0]? = some (.int .i64 (lastD x.2.2 1)) := int_at (by unfold lastD; rw [List.getLast?_eq_getElem?, show x.2.2.length - 1 = k by omega, List.getElem?_eq_getElem hk7]; rfl)
      have hM5 : (pb, ob [.int .i64 regs, vb, vo] 25) :: (osC 3 y5 [] ++ osC 3 y7 []) = [(pb, ob [.int .i64 regs, vb, vo] 25)] ++ osC 3 y5 (osC 3 y7 []) := by rw [osC_app 3 y5 (osC 3 y7 [])]; rfl
      have c4 : ar .sub .i64 (x.2.1.length : Int) 1 = (k : Int) := by
        show IntKind.i64.wrap _ = _
        rw [wrap_nat (by omega)]; omega
      obtain ⟨t, htt⟩ : ∃ t, lastD x.2.2 1 = t := ⟨_, rfl⟩
      rw [htt] at b2 ht
      have hquo : arOk .quo .i64 .i64 t = true := by simp [arOk]; omega
      have hq0 : 0 ≤ (1125899906842624 : Int).tdiv t ∧ (1125899906842624 : Int).tdiv t ≤ 1125899906842624 := ⟨Int.tdiv_nonneg (by omega) (by omega), Int.tdiv_le_self _ (by omega)⟩
      have cq : ar .quo .i64 1125899906842624 t = (1125899906842624 : Int).tdiv t := wrap_big (by omega)
      have hd5 : x.2.1.dropLast.length = k := by simp; omega
      have hd7 : x.2.2.dropLast.length = k := by simp; omega
      have hdm5 : x.2.1.dropLast.map int = (x.2.1.map int).take (k * 1) := by rw [List.dropLast_eq_take, List.map_take, Nat.mul_one, show x.2.1.length - 1 = k by omega]
      have hdm7 : x.2.2.dropLast.map int = (x.2.2.map int).take (k * 1) := by rw [List.dropLast_eq_take, List.map_take, Nat.mul_one, show x.2.2.length - 1 = k by omega]
      cases hgt : cm .gtr x.1 ((1125899906842624 : Int).tdiv t) with
      | true =>
        have hx2 : sstep x o = (capM (1125899906842624 + lastD x.2.1 0), x.2.1.dropLast, x.2.2.dropLast) := by unfold sstep; rw [if_neg (by rw [k16]; simp), if_pos k17, htt, if_pos hgt]
        have ca : ar .add .i64 1125899906842624 (lastD x.2.1 0) = 1125899906842624 + lastD x.2.1 0 := wrap_big (by omega)
        repeat' (first | refine L.loadU ((pb, ob [.int .i64 regs, vb, vo] 25) :: osC 3 y5 []) (L2 := []) (i := k) (j := 0) hG7 rfl hk7 (by decide) ht (c := ?_) | refine L.loadU [(pb, ob [.int .i64 regs, vb, vo] 25)] (L2 := osC 3 y7 []) (i := k) (j := 0) hG5 hM5 hk5 (by decide) hu (c := ?_) | refine L.indexR hG7.sl hk7 (c := ?_) | refine L.indexR hG5.sl hk5 (c := ?_) | refine L.lenR hG5.sl (c := ?_) | refine L.ar (op := .quo) (ho := hquo) (hz := cq) (c := ?_) | refine L.minI (z := capM _) (hz := rfl) (c := ?_) | refine L.cutU hG5 (k := k) (by omega) ⟨_, _, rfl, rfl⟩ (c := fun _ => ?_) | refine L.cutU hG7 (k := k) (by omega) ⟨_, _, rfl, rfl⟩ (c := fun _ => ?_) | refine C.quietA (h := ?_) | refine C.seq ?_ | refine C.region ?_ | refine L.nil ?_ | refine D.seq ?_ | refine L.move (k := ?_) | refine L.assign (k := ?_) | refine L.cm (c := ?_) | refine L.ar (c := ?_) | refine L.fieldAddr (c := ?_) | refine L.load1 0 (c := ?_) | refine C.yes (h1 := ?_) | refine C.no (h1 := ?_) | refine C.block ?_ | refine D.blkNormal ?_ | refine C.skip ?_ | exact D.endsQ | refine QL.fin ?_ | (refine QL.step (v := ?_) (by exact rfl) (by exact rfl) ?_ ?_; rotate_left) | refine L.lenR s2 (c := ?_) | refine L.indexR s2 hlt (c := ?_) | refine L.loadF o2 hv0 (c := ?_) | refine L.loadF o2 hv7 (c := ?_))
        refine D.then_ fun a1 w1 hs => ⟨(i + 1, sstep x o, c', y5, y7), ⟨by omega, hx'.symm, hS', hc8', hrn, ?_, ?_⟩, by simp only; omega, ?_⟩
        · rw [hx2]; show osG 1 x.2.1.dropLast.length (x.2.1.dropLast.map int) y5; rw [hd5, hdm5]; exact hG5.cut (by omega)
        · rw [hx2]; show osG 1 x.2.2.dropLast.length (x.2.2.dropLast.map int) y7; rw [hd7, hdm7]; exact hG7.cut (by omega)
        · refine hs.lessE rfl ?_
          rw [hx2]
          simp only [hd5, hd7]
          exact (lk_cons rfl (lk_cons rfl (lk_cons rfl (lk_cons rfl (lk_cons rfl (fun _ _ h => lk_nil h))))))
      | false =>
        have hx2 : sstep x o = (capM (x.1 * t + lastD x.2.1 0), x.2.1.dropLast, x.2.2.dropLast) := by unfold sstep; rw [if_neg (by rw [k16]; simp), if_pos k17, htt, if_neg (by rw [hgt]; simp)]
        have hle : x.1 ≤ (1125899906842624 : Int).tdiv t := by simpa [cm] using hgt
        have hmul : 0 ≤ x.1 * t ∧ x.1 * t ≤ 1125899906842624 := by
          rw [Int.tdiv_eq_ediv_of_nonneg (by omega)] at hle
          exact ⟨Int.mul_nonneg hs0.1 (by omega), (Int.le_ediv_iff_mul_le (by omega)).1 hle⟩
        have cm1 : ar .mul .i64 x.1 t = x.1 * t := wrap_big (by omega)
        have ca : ar .add .i64 (x.1 * t) (lastD x.2.1 0) = x.1 * t + lastD x.2.1 0 := wrap_big (by omega)
        repeat' (first | refine L.loadU ((pb, ob [.int .i64 regs, vb, vo] 25) :: osC 3 y5 []) (L2 := []) (i := k) (j := 0) hG7 rfl hk7 (by decide) ht (c := ?_) | refine L.loadU [(pb, ob [.int .i64 regs, vb, vo] 25)] (L2 := osC 3 y7 []) (i := k) (j := 0) hG5 hM5 hk5 (by decide) hu (c := ?_) | refine L.indexR hG7.sl hk7 (c := ?_) | refine L.indexR hG5.sl hk5 (c := ?_) | refine L.lenR hG5.sl (c := ?_) | refine L.ar (op := .quo) (ho := hquo) (hz := cq) (c := ?_) | refine L.minI (z := capM _) (hz := rfl) (c := ?_) | refine L.cutU hG5 (k := k) (by omega) ⟨_, _, rfl, rfl⟩ (c := fun _ => ?_) | refine L.cutU hG7 (k := k) (by omega) ⟨_, _, rfl, rfl⟩ (c := fun _ => ?_) | refine C.quietA (h := ?_) | refine C.seq ?_ | refine C.region ?_ | refine L.nil ?_ | refine D.seq ?_ | refine L.move (k := ?_) | refine L.assign (k := ?_) | refine L.cm (c := ?_) | refine L.ar (c := ?_) | refine L.fieldAddr (c := ?_) | refine L.load1 0 (c := ?_) | refine C.yes (h1 := ?_) | refine C.no (h1 := ?_) | refine C.block ?_ | refine D.blkNormal ?_ | refine C.skip ?_ | exact D.endsQ | refine QL.fin ?_ | (refine QL.step (v := ?_) (by exact rfl) (by exact rfl) ?_ ?_; rotate_left) | refine L.lenR s2 (c := ?_) | refine L.indexR s2 hlt (c := ?_) | refine L.loadF o2 hv0 (c := ?_) | refine L.loadF o2 hv7 (c := ?_))
        refine D.then_ fun a1 w1 hs => ⟨(i + 1, sstep x o, c', y5, y7), ⟨by omega, hx'.symm, hS', hc8', hrn, ?_, ?_⟩, by simp only; omega, ?_⟩
        · rw [hx2]; show osG 1 x.2.1.dropLast.length (x.2.1.dropLast.map int) y5; rw [hd5, hdm5]; exact hG5.cut (by omega)
        · rw [hx2]; show osG 1 x.2.2.dropLast.length (x.2.2.dropLast.map int) y7; rw [hd7, hdm7]; exact hG7.cut (by omega)
        · refine hs.lessE rfl ?_
          rw [hx2]
          simp only [hd5, hd7]
          exact (lk_cons rfl (lk_cons rfl (lk_cons rfl (lk_cons rfl (lk_cons rfl (fun _ _ h => lk_nil h))))))
    · have k17 : cm .eql o.k 17 = false := cm_no h17
      have ca : ar .add .i64 x.1 1 = x.1 + 1 := wrap_big (by omega)
      have hx2 : sstep x o = (capM (x.1 + 1), x.2.1, x.2.2) := by unfold sstep; rw [if_neg (by rw [k16]; simp), if_neg (by rw [k17]; simp)]
      repeat' (first | refine L.minI (z := capM _) (hz := rfl) (c := ?_) | refine C.seq ?_ | refine C.region ?_ | refine L.nil ?_ | refine D.seq ?_ | refine L.move (k := ?_) | refine L.assign (k := ?_) | refine L.cm (c := ?_) | refine L.ar (c := ?_) | refine L.fieldAddr (c := ?_) | refine L.load1 0 (c := ?_) | refine C.yes (h1 := ?_) | refine C.no (h1 := ?_) | refine C.block ?_ | refine D.blkNormal ?_ | refine C.skip ?_ | refine L.lenR s2 (c := ?_) | refine L.indexR s2 hlt (c := ?_) | refine L.loadF o2 hv0 (c := ?_) | refine L.loadF o2 hv7 (c := ?_))
      refine D.then_ fun a1 w1 hs => ⟨(i + 1, sstep x o, c', y5, y7), ⟨by omega, hx'.symm, hS', hc8', hrn, ?_, ?_⟩, by simp only; omega, ?_⟩
      · rw [hx2]; exact hG5
      · rw [hx2]; exact hG7
      · rw [hx2]; exact hs.lessE rfl (lk_cons rfl (lk_cons rfl (lk_cons rfl (lk_cons rfl (lk_cons rfl (fun _ _ h => lk_nil h))))))
  · have c2 : cm .lss (i : Int) os.length = false := cm_lo' (by omega)
    rw [List.take_of_length_le hge] at hx
    repeat' (first | refine C.seq ?_ | refine C.region ?_ | refine L.nil ?_ | refine D.seq ?_ | refine L.move (k := ?_) | refine L.assign (k := ?_) | refine L.cm (c := ?_) | refine L.fieldAddr (c := ?_) | refine L.load1 0 (c := ?_) | refine C.no (h1 := ?_) | refine C.ret ?_ | refine C.exit ?_ | refine D.thenExit ?_ | refine D.blkExit ?_ | refine D.seqR (h := ?_) | refine L.lenR s2 (c := ?_) | refine L.indexR s2 hlt (c := ?_) | refine L.loadF o2 hv0 (c := ?_) | refine L.loadF o2 hv7 (c := ?_))
    (refine D.ret (vs := [_]) (RV.tmp rfl RV.nil) ?_; intro w' hw; exact Post.mk (is := []) hw List.nodup_nil rfl ⟨by unfold stepsR stepsM; rw [if_pos he, ← hx]; rfl, rfl⟩)
end Go.Proofs.Ytkjlgapkcdcmgaa
