/- limb.Check: the walk; it tells what the document's tells. -/
import Derived.Test.YtkjlgapkcdcmgaaLk11
set_option linter.unusedVariables false
set_option linter.unusedSimpArgs false
namespace Go.Proofs.Ytkjlgapkcdcmgaa
open Go Go.RowKit SL
attribute [local irreducible] SL.L SL.C SL.D SL.N SL.H SL.QL SL.QW SL.QP

theorem rstep_ne {regs : Int} {bs : List Bf} {c : Ck} {o : Lop} {e : Int} (h : rstep regs bs c o = .inl e) : e = 2 ∨ e = 9 ∨ e = 10 ∨ e = 5 := by
  unfold rstep at h
  (repeat' split at h) <;> cases h <;> simp
theorem rstep_inv {regs : Int} {bs : List Bf} {c c' : Ck} {o : Lop} (h : rstep regs bs c o = .inr c') : c'.made.length = c.made.length ∧ (c.loops.length ≤ 8 → c'.loops.length ≤ 8) ∧ ((∀ r ∈ c.loops, 0 ≤ r ∧ r < regs) → ∀ r ∈ c'.loops, 0 ≤ r ∧ r < regs) := by
  unfold rstep at h
  split at h
  · rename_i hf
    split at h
    · split at h
      · cases h
      · cases h
        refine ⟨by simp, fun h8 => by simp; omega, fun hr r hm => hr r ((List.dropLast_sublist _).mem hm)⟩
    · split at h
      · cases h
      · split at h
        · cases h
        · split at h
          · cases h
          · rename_i h8
            split at h
            · cases h
            · cases h
              refine ⟨setAll_len _ _, fun hl => ?_, fun hr r hm => ?_⟩
              · simp only
                split
                · rename_i hk
                  have h8' : ¬ ((c.loops.length : Int) = 8) := fun e => h8 (by rw [hk, cm_yes e]; rfl)
                  rw [List.length_append, List.length_singleton]; have := hl; omega
                · exact hl
              · simp only at hm
                split at hm
                · rename_i hk
                  rcases List.mem_append.1 hm with hm | hm
                  · exact hr r hm
                  · rw [List.mem_singleton] at hm
                    have h16 : o.k = 16 := by simpa [cm] using hk
                    exact rf_makes hf r (by rw [makes_loop h16, hm]; simp)
                · exact hr r hm
  · cases h
theorem mdAt_set (l : List Bool) (k r : Int) (b : Bool) (hk : 0 ≤ k ∧ k < l.length) (hr : 0 ≤ r) : mdAt (l.set k.toNat b) r = if r = k then b else mdAt l r := by
  unfold mdAt
  rw [List.getElem?_set]
  by_cases h : r = k
  · subst h; rw [if_pos rfl, if_pos rfl, if_pos (by omega)]; rfl
  · rw [if_neg h, if_neg (by omega)]
/-- Two checkers that know the same. -/
def CkEq (regs : Int) (c c' : Ck) : Prop := c.loops = c'.loops ∧ (∀ r, 0 ≤ r → r < regs → mdAt c.made r = mdAt c'.made r) ∧ regs ≤ c.made.length ∧ regs ≤ c'.made.length ∧ ∀ r ∈ c.loops, 0 ≤ r ∧ r < regs
theorem md_set {regs k : Int} {l l' : List Bool} {b : Bool} (hk : 0 ≤ k ∧ k < regs) (h1 : regs ≤ l.length) (h2 : regs ≤ l'.length) (h : ∀ r, 0 ≤ r → r < regs → mdAt l r = mdAt l' r) : ∀ r, 0 ≤ r → r < regs → mdAt (l.set k.toNat b) r = mdAt (l'.set k.toNat b) r := by
  intro r h0 hr
  rw [mdAt_set _ _ _ _ (by omega) h0, mdAt_set _ _ _ _ (by omega) h0, h r h0 hr]
theorem md_setAll {regs : Int} : ∀ (ks : List Int) {l l' : List Bool}, (∀ k ∈ ks, 0 ≤ k ∧ k < regs) → regs ≤ l.length → regs ≤ l'.length → (∀ r, 0 ≤ r → r < regs → mdAt l r = mdAt l' r) → ∀ r, 0 ≤ r → r < regs → mdAt (setAll l ks) r = mdAt (setAll l' ks) r
  | [], _, _, _, _, _, h => h
  | k :: ks, l, l', hk, h1, h2, h => by
    show ∀ r, 0 ≤ r → r < regs → mdAt (setAll (l.set k.toNat true) ks) r = mdAt (setAll (l'.set k.toNat true) ks) r
    exact md_setAll ks (fun q hq => hk q (List.mem_cons_of_mem _ hq)) (by simpa using h1) (by simpa using h2) (md_set (hk k List.mem_cons_self) h1 h2 h)
theorem any_md {regs : Int} {l l' : List Bool} {ks : List Int} (hk : ∀ k ∈ ks, 0 ≤ k ∧ k < regs) (h : ∀ r, 0 ≤ r → r < regs → mdAt l r = mdAt l' r) : (ks.any fun r => !mdAt l r) = ks.any fun r => !mdAt l' r := by
  induction ks with
  | nil => rfl
  | cons k ks ih =>
    simp only [List.any_cons]
    rw [h k (hk k List.mem_cons_self).1 (hk k List.mem_cons_self).2, ih fun q hq => hk q (List.mem_cons_of_mem _ hq)]
theorem rstep_sim {regs : Int} {bs : List Bf} {c c' : Ck} {o : Lop} (h : CkEq regs c c') : (∃ e, rstep regs bs c o = .inl e ∧ rstep regs bs c' o = .inl e) ∨ ∃ d d', rstep regs bs c o = .inr d ∧ rstep regs bs c' o = .inr d' ∧ CkEq regs d d' := by
  obtain ⟨made, loops⟩ := c
  obtain ⟨made', loops'⟩ := c'
  obtain ⟨rfl, hm, h1, h2, hl⟩ := h
  simp only at hm h1 h2 hl
  unfold rstep
  cases hf : rfields regs bs o with
  | false => exact .inl ⟨2, rfl, rfl⟩
  | true =>
  simp only [if_true]
  cases ce : cm .eql o.k 17 with
  | true =>
    simp only [if_true]
    cases hg : loops.getLast? with
    | none => exact .inl ⟨9, rfl, rfl⟩
    | some r =>
      have hr : 0 ≤ r ∧ r < regs := hl r (List.mem_of_getLast? hg)
      exact .inr ⟨_, _, rfl, rfl, rfl, md_set hr h1 h2 hm, by simpa using h1, by simpa using h2, fun q hq => hl q ((List.dropLast_sublist _).mem hq)⟩
  | false =>
  simp only [Bool.false_eq_true, if_false]
  split
  · exact .inl ⟨9, rfl, rfl⟩
  have e1 : (cm .eql o.k 16 && mdAt made o.d) = (cm .eql o.k 16 && mdAt made' o.d) := by
    cases hk : cm .eql o.k 16 with
    | false => rfl
    | true =>
      have h16 : o.k = 16 := by simpa [cm] using hk
      have := rf_makes hf o.d (by rw [makes_loop h16]; simp)
      rw [hm _ this.1 this.2]
  rw [e1, any_md (rf_takes hf) hm]
  split
  · exact .inl ⟨9, rfl, rfl⟩
  split
  · exact .inl ⟨10, rfl, rfl⟩
  split
  · exact .inl ⟨5, rfl, rfl⟩
  refine .inr ⟨_, _, rfl, rfl, rfl, md_setAll _ (rf_makes hf) h1 h2 hm, by simpa [setAll_len] using h1, by simpa [setAll_len] using h2, fun q hq => ?_⟩
  simp only at hq
  split at hq
  · rename_i hk
    have h16 : o.k = 16 := by simpa [cm] using hk
    rcases List.mem_append.1 hq with hq | hq
    · exact hl q hq
    · rw [List.mem_singleton] at hq; rw [hq]; exact rf_makes hf o.d (by rw [makes_loop h16]; simp)
  · exact hl q hq
theorem rrun_sim {regs : Int} {bs : List Bf} : ∀ (os : List Lop) (i : Nat) {c c' : Ck}, CkEq regs c c' → rrun regs bs os i c = rrun regs bs os i c'
  | [], i, c, c', h => by unfold rrun; rw [h.1]
  | o :: os, i, c, c', h => by
    unfold rrun
    rcases rstep_sim (bs := bs) (o := o) h with ⟨e, h1, h2⟩ | ⟨d, d', h1, h2, h3⟩
    · rw [h1, h2]
    · rw [h1, h2]; exact rrun_sim os (i + 1) h3
theorem mdAt_rep (n : Nat) (r : Int) : mdAt (List.replicate n false) r = false := by
  unfold mdAt; rw [List.getElem?_replicate]; split <;> rfl
theorem rhead_none {regs : Int} {bs : List Bf} {no : Nat} (h : rhead regs bs no = none) : 0 ≤ regs ∧ regs ≤ 64 ∧ bs.length ≤ 32 ∧ no ≤ 65536 := by
  unfold rhead at h
  split at h
  · cases h
  · split at h
    · cases h
    · split at h
      · cases h
      · rename_i h1 _ h2
        simp [cm] at h1 h2
        omega
theorem check64 (regs : Int) (bs : List Bf) (os : List Lop) : checkM regs bs os = match rhead regs bs os.length with | some e => (0, e) | none => rrun regs bs os 0 ⟨List.replicate 64 false, []⟩ := by
  unfold checkM
  cases h : rhead regs bs os.length with
  | some e => rfl
  | none =>
    obtain ⟨h0, h1, _⟩ := rhead_none h
    refine rrun_sim os 0 ⟨rfl, fun r _ _ => by simp only [mdAt_rep], by simp; omega, by simp; omega, fun r hr => by cases hr⟩
theorem rhead_ne {regs : Int} {bs : List Bf} {no : Nat} {e : Int} (h : rhead regs bs no = some e) : e = 2 ∨ e = 3 := by
  unfold rhead at h
  (repeat' split at h) <;> cases h <;> simp
set_option maxHeartbeats 8000000 in
theorem check_S (regs : Int) (vb vo : Value) (bs : List Bf) (os : List Lop) (hbl : bs.length ≤ maxLen) : Ctr Try.prog 37 [progV regs vb vo] []
    (fun w => Rd w [] vb bs.length (bs.flatMap encB) ∧ Rd w [] vo os.length (os.flatMap encO)) (is2 (.int .i64 (checkM regs bs os).1) (.int .i64 (checkM regs bs os).2)) := by
  refine Ctr.enter Try.func37 Try.ntmps37 rfl rfl (fun w hr => ?_)
  obtain ⟨hr1, hr2⟩ := hr
  have s1 := hr1.1
  have s2 := hr2.1
  have H := head_S regs vb vo bs os.length s2 hbl
  have hck := check64 regs bs os
  unfold progV
  cases hh : rhead regs bs os.length with
  | some e =>
    rw [hh] at H hck
    have hne : cm .neq e 0 = true := cm_ne (by rcases rhead_ne hh with h | h <;> omega)
    simp only [Option.getD_some] at H
    repeat' (first | refine C.seq ?_ | refine C.region ?_ | refine L.nil ?_ | refine D.seq ?_ | refine L.move (k := ?_) | refine L.assign (k := ?_) | refine L.cm (c := ?_) | refine L.loadA 0 (c := ?_) | refine L.box (c := fun _ => ?_) | refine C.yes (h1 := ?_) | refine C.ret ?_ | refine D.thenRet ?_ | refine L.callQ H (hpre := fun w hw => hr1.at hw) (k := ?_))
    rw [hck]
    (refine D.ret (vs := [_, _]) (RV.tmp rfl (RV.tmp rfl RV.nil)) ?_; intro w' hw; exact Post.mk (is := []) hw List.nodup_nil rfl ⟨rfl, rfl⟩)
  | none =>
  rw [hh] at H hck
  simp only [Option.getD_none] at H hck
  obtain ⟨hr0, hr64, hnb, hno⟩ := rhead_none hh
  repeat' (first | refine L.box (T := 103) (l := ckCells regs vb vo (List.replicate 64 false) (.slice none 0 0)) (c := fun cb => ?_) | refine C.seq ?_ | refine C.region ?_ | refine L.nil ?_ | refine D.seq ?_ | refine L.move (k := ?_) | refine L.assign (k := ?_) | refine L.cm (c := ?_) | refine L.fieldAddr (c := ?_) | refine L.load1 1 (c := ?_) | refine L.loadA 0 (c := ?_) | refine L.build (c := ?_) | refine L.box (c := fun _ => ?_) | refine C.no (h1 := ?_) | refine C.block ?_ | refine C.skip ?_ | refine L.callQ H (hpre := fun w hw => hr1.at hw) (k := ?_) | refine L.lenR s2 (c := ?_))
  rename_i pb
  refine C.perm (M' := (pb, ob [.int .i64 regs, vb, vo] 25) :: (cb, ob (ckCells regs vb vo (List.replicate 64 false) (.slice none 0 0)) 103) :: []) (List.Perm.swap _ _ _) ?_
  refine C.loop (α := Nat × Ck × OS) (fun x => x.1 ≤ os.length ∧ x.2.1.made.length = 64 ∧ x.2.1.loops.length ≤ 8 ∧ (∀ r ∈ x.2.1.loops, 0 ≤ r ∧ r < regs) ∧ osG 1 x.2.1.loops.length (x.2.1.loops.map int) x.2.2 ∧ checkM regs bs os = rrun regs bs (os.drop x.1) x.1 x.2.1)
    (fun x => [(1, .pointer (some ⟨pb, 0, none⟩)), (5, .pointer (some ⟨cb, 0, none⟩)), (18, vo), (19, .int .i64 os.length), (20, .int .i64 x.1)])
    (fun x => (pb, ob [.int .i64 regs, vb, vo] 25) :: (cb, ob (ckCells regs vb vo x.2.1.made (osV x.2.1.loops.length x.2.2)) 103) :: osC 3 x.2.2 []) (fun x => os.length - x.1) (0, ⟨List.replicate 64 false, []⟩, none)
    (fun a w hs => hs.lessE rfl (lk_cons rfl (lk_cons rfl (lk_cons rfl (lk_cons rfl (lk_cons rfl (fun _ _ h => lk_nil h))))))) ⟨Nat.zero_le _, by simp, by simp, (fun r hr => by cases hr), osG.nil, hck⟩ ?_
  rintro ⟨i, c, y⟩ ⟨hi, hmd, hlp, hlr, hG, hck⟩
  simp only at hi hmd hlp hlr hG hck ⊢
  rcases Nat.lt_or_ge i os.length with hlt | hge
  · have c1 : cm .lss (i : Int) os.length = true := cm_lo (by omega)
    obtain ⟨o, ho⟩ : ∃ o, os[i]? = some o := ⟨_, List.getElem?_eq_getElem hlt⟩
    have hdr : os.drop i = o :: os.drop (i + 1) := by
      rw [List.drop_eq_getElem?_toList_append, ho]; rfl
    rw [hdr] at hck
    obtain ⟨ha0, hal⟩ := flat_at encO_len ho
    have ha := ha0.trans (encO_ex o)
    clear ha0
    have o2 := hr2.2 (by omega)
    have c2 : ar .add .i64 (i : Int) 1 = ((i + 1 : Nat) : Int) := wrap_nat (by omega)
    have hop := op_S cb regs vb vo bs c o y hr64 hmd hG hlp hlr
    repeat' (first | refine C.seq ?_ | refine C.region ?_ | refine L.nil ?_ | refine D.seq ?_ | refine L.move (k := ?_) | refine L.assign (k := ?_) | refine L.cm (c := ?_) | refine L.loadA 0 (c := ?_) | refine L.storeV 0 (c := ?_) | refine L.alloc (c := fun _ => ?_) | refine C.yes (h1 := ?_) | refine C.block ?_ | refine C.skip ?_ | refine L.lenR s2 (c := ?_) | refine L.indexR s2 hlt (c := ?_) | refine L.loadOA o2 (i := i * 8) (ho := rfl) (hi := hal) (hcs := ha) (c := ?_) | refine L.callD 2 hop (hu := rfl) (hA := rfl) (hpre := fun w1 hw => hr1.base hw _ (fun x hx => List.mem_cons_of_mem _ (List.mem_cons_of_mem _ hx))) (k := fun v B hR => ?_))
    rename_i xb
    unfold opR at hR
    cases hst : rstep regs bs c o with
    | inl e =>
      rw [hst] at hR
      obtain ⟨rfl, rfl⟩ := hR
      have hne : cm .neq e 0 = true := cm_ne (by have := rstep_ne hst; omega)
      unfold shut
      repeat' (first | refine C.seq ?_ | refine C.region ?_ | refine L.nil ?_ | refine D.seq ?_ | refine L.move (k := ?_) | refine L.assign (k := ?_) | refine L.cm (c := ?_) | refine C.yes (h1 := ?_) | refine C.ret ?_ | refine D.thenRet ?_ | refine D.blkRet ?_)
      rw [show checkM regs bs os = (↑i, e) by rw [hck]; simp only [rrun, hst]]
      (refine D.ret (vs := [_, _]) (RV.tmp rfl (RV.tmp rfl RV.nil)) ?_; intro w' hw; exact Post.mk (is := []) hw List.nodup_nil rfl ⟨rfl, rfl⟩)
    | inr c' =>
      rw [hst] at hR
      obtain ⟨rfl, y', hG', rfl⟩ := hR
      obtain ⟨i1, i2, i3⟩ := rstep_inv hst
      unfold shut
      repeat' (first | refine C.region ?_ | refine L.nil ?_ | refine D.seq ?_ | refine L.move (k := ?_) | refine L.cm (c := ?_) | refine L.ar (c := ?_) | refine C.no (h1 := ?_) | refine D.blkNormal ?_ | refine C.skip ?_)
      exact D.then_ fun a1 w1 hs => ⟨(i + 1, c', y'), ⟨by omega, by rw [i1, hmd], i2 hlp, i3 hlr, hG', by rw [hck]; simp only [rrun, hst]⟩, by simp only; omega, hs.lessD 1 rfl (lk_cons rfl (lk_cons rfl (lk_cons rfl (lk_cons rfl (lk_cons rfl (fun _ _ h => lk_nil h))))))⟩
  have hil : i = os.length := by omega
  subst hil
  rw [List.drop_length] at hck
  have c1 : cm .lss (os.length : Int) os.length = false := cm_lo' (by omega)
  rcases Nat.eq_zero_or_pos c.loops.length with hl0 | hl0
  · have c2 : cm .gtr (c.loops.length : Int) 0 = false := cm_gt' (by omega)
    repeat' (first | refine C.seq ?_ | refine C.region ?_ | refine L.nil ?_ | refine D.seq ?_ | refine L.move (k := ?_) | refine L.assign (k := ?_) | refine L.cm (c := ?_) | refine L.fieldAddr (c := ?_) | refine L.load1 0 (c := ?_) | refine L.nilCheck (k := ?_) | refine C.no (h1 := ?_) | refine C.ret ?_ | refine C.exit ?_ | refine D.thenExit ?_ | refine D.blkExit ?_ | refine C.skip ?_ | refine D.seqR (h := ?_) | refine L.lenR s2 (c := ?_) | refine L.lenR hG.sl (c := ?_) | refine L.loadK 1 (ck_loops hmd) rfl (c := ?_))
    rw [show checkM regs bs os = (↑os.length, 0) by rw [hck]; simp [rrun, List.length_eq_zero_iff.1 hl0]]
    (refine D.ret (vs := [_, _]) (RV.tmp rfl (RV.tmp rfl RV.nil)) ?_; intro w' hw; exact Post.mk (is := []) hw List.nodup_nil rfl ⟨rfl, rfl⟩)
  · have c2 : cm .gtr (c.loops.length : Int) 0 = true := cm_gt (by omega)
    repeat' (first | refine C.seq ?_ | refine C.region ?_ | refine L.nil ?_ | refine D.seq ?_ | refine L.move (k := ?_) | refine L.assign (k := ?_) | refine L.cm (c := ?_) | refine L.fieldAddr (c := ?_) | refine L.load1 0 (c := ?_) | refine L.nilCheck (k := ?_) | refine C.yes (h1 := ?_) | refine C.no (h1 := ?_) | refine C.ret ?_ | refine D.thenRet ?_ | refine C.exit ?_ | refine D.thenExit ?_ | refine D.blkExit ?_ | refine D.seqR (h := ?_) | refine L.lenR s2 (c := ?_) | refine L.lenR hG.sl (c := ?_) | refine L.loadK 1 (ck_loops hmd) rfl (c := ?_))
    rw [show checkM regs bs os = (↑os.length, 9) by rw [hck]; simp [rrun, show c.loops ≠ [] from fun h => by rw [h] at hl0; cases hl0]]
    (refine D.ret (vs := [_, _]) (RV.tmp rfl (RV.tmp rfl RV.nil)) ?_; intro w' hw; exact Post.mk (is := []) hw List.nodup_nil rfl ⟨rfl, rfl⟩)
end Go.Proofs.Ytkjlgapkcdcmgaa
