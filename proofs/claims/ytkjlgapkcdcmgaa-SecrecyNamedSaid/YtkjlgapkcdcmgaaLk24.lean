/- SecrecyNamed: the walk. -/
import Derived.Test.YtkjlgapkcdcmgaaLk21
import Derived.Test.YtkjlgapkcdcmgaaLk23
set_option linter.unusedVariables false
set_option linter.unusedSimpArgs false
namespace Go.Proofs.Ytkjlgapkcdcmgaa
open Go Go.RowKit SL
attribute [local irreducible] SL.L SL.C SL.D SL.N SL.H SL.QL SL.QW SL.QP

theorem SL.At.nilr {w0 w : World} {A : List Nat} {M : Hp} (h : At w0 A M w) : At w0 A (M ++ []) w := by rw [List.append_nil]; exact h
theorem flat_setB {α : Type} {n : Nat} {enc : α → List Value} (he : ∀ x, (enc x).length = n) : ∀ (xs : List α) (i : Nat) (b : α), i < xs.length → setL (xs.flatMap enc) (i * n) (enc b) = (xs.set i b).flatMap enc := by
  intro xs i b hi
  have key : ∀ (vs l1 l2 l3 : List Value), l2.length = vs.length → setL (l1 ++ (l2 ++ l3)) l1.length vs = l1 ++ (vs ++ l3) := by
    intro vs
    induction vs with
    | nil => intro l1 l2 l3 h; rw [List.length_eq_zero_iff.1 h]; rfl
    | cons v vs ih =>
      intro l1 l2 l3 h
      match l2, h with
      | u :: l2, h =>
        show setL ((l1 ++ (u :: l2 ++ l3)).set l1.length v) (l1.length + 1) vs = _
        rw [List.set_append_right _ _ (Nat.le_refl _), Nat.sub_self, List.cons_append, List.set_cons_zero]
        have := ih (l1 ++ [v]) l2 l3 (by simpa using h)
        rw [List.length_append, List.length_singleton] at this
        simpa using this
  have h1 : xs = xs.take i ++ (xs[i] :: xs.drop (i + 1)) := by
    rw [← List.drop_eq_getElem_cons hi, List.take_append_drop]
  have h2 : xs.set i b = xs.take i ++ (b :: xs.drop (i + 1)) := by
    rw [List.set_eq_take_append_cons_drop, if_pos hi]
  have h3 : ((xs.take i).flatMap enc).length = i * n := by rw [flat_len he, List.length_take, Nat.min_eq_left (by omega)]
  rw [h2, List.flatMap_append, List.flatMap_cons]
  conv => lhs; rw [h1, List.flatMap_append, List.flatMap_cons, ← h3]
  exact key _ _ _ _ (by rw [he, he])
/-- The buffers, as far as they are turned about; the operations, as far as they tell the buffers anew. -/
theorem set_same {α : Type} {xs : List α} {i : Nat} {x : α} (h : xs[i]? = some x) : xs.set i x = xs := by
  refine List.ext_getElem? fun k => ?_
  rw [List.getElem?_set]
  split
  · rename_i hk; subst hk
    rw [if_pos (List.getElem?_eq_some_iff.1 h).1, h]
  · rfl
def revB (bs : List Bf) (i : Nat) : List Bf := bs.reverse.take i ++ bs.drop i
def renO (nb : Nat) (os : List Lop) (i : Nat) : List Lop := (os.take i).map (ren nb) ++ os.drop i
theorem revB_len (bs : List Bf) (i : Nat) (h : i ≤ bs.length) : (revB bs i).length = bs.length := by simp [revB]; omega
theorem renO_len (nb : Nat) (os : List Lop) (i : Nat) (h : i ≤ os.length) : (renO nb os i).length = os.length := by simp [renO]; omega
theorem revB_all (bs : List Bf) : revB bs bs.length = bs.reverse := by simp [revB, List.take_of_length_le]
theorem renO_all (nb : Nat) (os : List Lop) : renO nb os os.length = os.map (ren nb) := by simp [renO]
theorem revB_succ {bs : List Bf} {i : Nat} {b : Bf} (h : i < bs.length) (hb : bs[bs.length - 1 - i]? = some b) : (revB bs i).set i b = revB bs (i + 1) := by
  unfold revB
  have hl : (bs.reverse.take i).length = i := by simp; omega
  have hr : bs.reverse[i]? = some b := by rw [List.getElem?_reverse h]; exact hb
  rw [List.set_append_right _ _ (by omega), hl, Nat.sub_self, List.drop_eq_getElem_cons h, List.set_cons_zero, List.take_add_one, hr]
  simp
theorem renO_get {nb : Nat} {os : List Lop} {i : Nat} {o : Lop} (h : os[i]? = some o) : (renO nb os i)[i]? = some o := by
  have hi := (List.getElem?_eq_some_iff.1 h).1
  unfold renO
  rw [List.getElem?_append_right (by simp; omega)]
  simp [Nat.min_eq_left (Nat.le_of_lt hi), h]
theorem renO_succ {nb : Nat} {os : List Lop} {i : Nat} {o : Lop} (h : os[i]? = some o) : (renO nb os i).set i (ren nb o) = renO nb os (i + 1) := by
  have hi := (List.getElem?_eq_some_iff.1 h).1
  unfold renO
  have hl : ((os.take i).map (ren nb)).length = i := by simp; omega
  rw [List.set_append_right _ _ (by omega), hl, Nat.sub_self, List.drop_eq_getElem_cons hi, List.set_cons_zero, List.take_add_one, h]
  simp
theorem renO_no {nb : Nat} {os : List Lop} {i : Nat} {o : Lop} (h : os[i]? = some o) (hm : mem o = false) : renO nb os i = renO nb os (i + 1) := by
  have hi := (List.getElem?_eq_some_iff.1 h).1
  rw [← renO_succ h]
  have : ren nb o = o := by unfold ren; rw [if_neg (ne_true_of_eq_false hm)]
  rw [this]
  exact (set_same (renO_get h)).symm
theorem flat_setO (xs : List Lop) (i : Nat) (o : Lop) (v : Int) (h : xs[i]? = some o) : (xs.flatMap encO).set (i * 8 + 6) (.int .i64 v) = (xs.set i ⟨o.k, o.d, o.e, o.a, o.b, o.c, v, o.imm⟩).flatMap encO := by
  have hi := (List.getElem?_eq_some_iff.1 h).1
  rw [← flat_setB encO_len _ _ _ hi]
  refine List.ext_getElem? fun k => ?_
  have e6 := flat_get encO_len xs i o h
  have hl : (xs.flatMap encO).length = xs.length * 8 := flat_len encO_len xs
  simp only [encO, setL]
  have h0 := e6 0 (by decide); have h1 := e6 1 (by decide); have h2 := e6 2 (by decide); have h3 := e6 3 (by decide); have h4 := e6 4 (by decide); have h5 := e6 5 (by decide); have h7 := e6 7 (by decide)
  simp only [encO, List.getElem?_cons_zero, List.getElem?_cons_succ] at h0 h1 h2 h3 h4 h5 h7
  simp only [List.getElem?_set]
  grind

set_option maxRecDepth 100000 in
set_option maxHeartbeats 16000000 in
theorem named_S (regs n : Int) (vb vo : Value) (bs : List Bf) (os : List Lop) (hbl : bs.length ≤ maxLen) (hol : os.length ≤ maxLen) (hn : 0 ≤ n ∧ n ≤ 18446744073709551615) (hbk : ∀ o ∈ os, -9223372036854775808 ≤ o.buf ∧ o.buf ≤ 9223372036854775807) :
    Ctr Try.prog 4 [progV regs vb vo, .int .u64 n] [] (fun w => Rd w [] vb bs.length (bs.flatMap encB) ∧ Rd w [] vo os.length (os.flatMap encO)) (is (.bool true) []) := by
  refine Ctr.enter Try.func4 Try.ntmps4 rfl rfl (fun w hr => ?_)
  have s1 := hr.1.1
  have s2 := hr.2.1
  have kL := light_S regs vb vo bs os.length 60 s2 hbl hol
  unfold progV
  repeat' (first | refine C.seq ?_ | refine C.region ?_ | refine L.nil ?_ | refine D.seq ?_ | refine L.assign (k := ?_) | refine L.loadA 0 (c := ?_) | refine L.box (c := fun _ => ?_) | refine C.no (h1 := ?_) | refine L.not (c := ?_) | refine C.skip ?_ | refine L.callQ (lives13_S) (k := ?_))
  rename_i pb
  refine L.callP [] (rcheck_S regs vb vo bs os) (hpre := fun w hw => ⟨hr.1.at hw, hr.2.at hw⟩) (k := ?_)
  rintro v B ⟨rfl, rfl⟩
  rw [hdrop_nil]
  unfold shut
  rw [List.nil_append]
  cases hL : lightM regs bs os.length 60 with
  | false =>
    rw [hL] at kL
    repeat' (first | refine C.seq ?_ | refine C.region ?_ | refine L.nil ?_ | refine D.seq ?_ | refine L.move (k := ?_) | refine L.assign (k := ?_) | refine L.loadA 0 (c := ?_) | refine L.extract (c := ?_) | refine C.yes (h1 := ?_) | refine L.pickT (k := ?_) | refine L.pass (k := ?_) | refine L.not (c := ?_) | refine C.ret ?_ | refine D.thenRet ?_ | refine L.callQ kL (hpre := fun w hw => hr.1.at hw) (k := ?_))
    (refine D.ret (vs := [_]) (RV.tmp rfl RV.nil) ?_; intro w' hw; exact Post.mk (is := []) hw List.nodup_nil rfl ⟨rfl, rfl⟩)
  | true =>
  rw [hL] at kL
  by_cases he : (checkM regs bs os).2 ≠ 0
  · have c1 : cm .neq (checkM regs bs os).2 0 = true := cm_ne he
    repeat' (first | refine C.seq ?_ | refine C.region ?_ | refine L.nil ?_ | refine D.seq ?_ | refine L.move (k := ?_) | refine L.assign (k := ?_) | refine L.cm (c := ?_) | refine L.loadA 0 (c := ?_) | refine L.extract (c := ?_) | refine C.yes (h1 := ?_) | refine L.pickT (k := ?_) | refine L.pickF (k := ?_) | refine L.want (k := ?_) | refine L.pass (k := ?_) | refine L.not (c := ?_) | refine C.ret ?_ | refine D.thenRet ?_ | refine L.callQ kL (hpre := fun w hw => hr.1.at hw) (k := ?_))
    (refine D.ret (vs := [_]) (RV.tmp rfl RV.nil) ?_; intro w' hw; exact Post.mk (is := []) hw List.nodup_nil rfl ⟨rfl, rfl⟩)
  replace he : (checkM regs bs os).2 = 0 := by omega
  have c1 : cm .neq (checkM regs bs os).2 0 = false := cm_ne' he
  by_cases h60 : 60 < regs
  · have c2 : cm .gtr regs 60 = true := cm_gt h60
    repeat' (first | refine C.seq ?_ | refine C.region ?_ | refine L.nil ?_ | refine D.seq ?_ | refine L.move (k := ?_) | refine L.assign (k := ?_) | refine L.cm (c := ?_) | refine L.fieldAddr (c := ?_) | refine L.load1 0 (c := ?_) | refine L.loadA 0 (c := ?_) | refine L.extract (c := ?_) | refine C.yes (h1 := ?_) | refine L.pickF (k := ?_) | refine L.want (k := ?_) | refine L.not (c := ?_) | refine C.ret ?_ | refine D.thenRet ?_ | refine L.callQ kL (hpre := fun w hw => hr.1.at hw) (k := ?_))
    (refine D.ret (vs := [_]) (RV.tmp rfl RV.nil) ?_; intro w' hw; exact Post.mk (is := []) hw List.nodup_nil rfl ⟨rfl, rfl⟩)
  have c2 : cm .gtr regs 60 = false := cm_gt' (by omega)
  obtain ⟨hl1, hl2, hl3, _⟩ := light_ok hL
  obtain ⟨ha, h0, h64, hb32, hno, hh, hf⟩ := check_ok he
  have hok : ∀ o ∈ os, OpOk regs bs o := fun o hm => opOk h0 (hf o hm)
  have kOwn := ownProg_S regs vb vo bs.length os.length (bs.flatMap encB) (os.flatMap encO) (flat_len encB_len bs) (flat_len encO_len os) (ones_flat ones_B bs) (ones_flat ones_O os) (by omega) (by omega) s1 s2
  repeat' (first | refine C.seq ?_ | refine C.region ?_ | refine L.nil ?_ | refine D.seq ?_ | refine L.move (k := ?_) | refine L.assign (k := ?_) | refine L.cm (c := ?_) | refine L.fieldAddr (c := ?_) | refine L.load1 0 (c := ?_) | refine L.loadA 0 (c := ?_) | refine L.extract (c := ?_) | refine C.no (h1 := ?_) | refine L.pickF (k := ?_) | refine L.want (k := ?_) | refine L.not (c := ?_) | refine C.skip ?_ | refine L.callQ kL (hpre := fun w hw => hr.1.at hw) (k := ?_))
  refine L.callP [] kOwn (hpre := fun w hw => ⟨hr.1.at hw, hr.2.at hw⟩) (k := ?_)
  rintro v B ⟨yq, yp, hq0, hp0, rfl, rfl⟩
  rw [hdrop_nil, osC_app 33 yq (osC 39 yp [])]
  unfold shut progV
  repeat' (first | refine L.alloc (c := fun _ => ?_))
  rename_i qb
  refine L.storeV 0 (vs := [.int .i64 regs, osV bs.length yq, osV os.length yp]) (ho := by simp only [List.all_cons, List.all_nil, oneB_os, Bool.and_true]; rfl) (hM := rfl) (c := ?_)
  refine L.nil ?_
  refine D.seqR (h := ?_)
  refine C.perm (M' := ((qb, ob [.int .i64 regs, osV bs.length yq, osV os.length yp] 25) :: (pb, ob [.int .i64 regs, vb, vo] 25) :: []) ++ (osC 33 yq [] ++ osC 39 yp [])) (perm_by (fun k => match k with | 0 => [(qb, ob [.int .i64 regs, osV bs.length yq, osV os.length yp] 25)] | 1 => osC 33 yq [] | 2 => osC 39 yp [] | _ => [(pb, ob [.int .i64 regs, vb, vo] 25)]) [0, 3, 1, 2] [0, 1, 2, 3] (by simp) (by simp [hset])) ?_
  refine C.base ((qb, ob [.int .i64 regs, osV bs.length yq, osV os.length yp] 25) :: (pb, ob [.int .i64 regs, vb, vo] 25) :: []) rfl (fun w1 h1 => ?_)
  have oqb := Old.own (h1.mem (x := (qb, ob [.int .i64 regs, osV bs.length yq, osV os.length yp] 25)) (by simp)) (h1.notin (x := (qb, ob [.int .i64 regs, osV bs.length yq, osV os.length yp] 25)) (by simp)) _ List.take_length
  have opb := Old.own (h1.mem (x := (pb, ob [.int .i64 regs, vb, vo] 25)) (by simp)) (h1.notin (x := (pb, ob [.int .i64 regs, vb, vo] 25)) (by simp)) _ List.take_length
  have q1 := hr.1.back h1
  have q2 := hr.2.back h1
  obtain ⟨vq, hvq⟩ : ∃ v, osV bs.length yq = v := ⟨_, rfl⟩
  obtain ⟨vp, hvp⟩ : ∃ v, osV os.length yp = v := ⟨_, rfl⟩
  have sq : SlV vq bs.length := hvq ▸ hq0.sl
  have sp : SlV vp os.length := hvp ▸ hp0.sl
  rw [hvq, hvp] at oqb
  repeat' (first | refine C.seq ?_ | refine C.region ?_ | refine L.nil ?_ | refine D.seq ?_ | refine L.assign (k := ?_) | refine C.block ?_)
  refine C.loop (α := Nat × OS) (fun x => x.1 ≤ bs.length ∧ osG 3 bs.length ((revB bs x.1).flatMap encB) x.2 ∧ osV bs.length x.2 = vq)
    (fun x => [(1, .int .u64 n), (2, .pointer (some ⟨pb, 0, none⟩)), (7, .pointer (some ⟨qb, 0, none⟩)), (8, .int .i64 x.1)]) (fun x => osC 33 x.2 [] ++ osC 39 yp []) (fun x => bs.length - x.1) (0, yq)
    (fun a w hs => hs.lessE rfl (lk_cons rfl (lk_cons rfl (lk_cons rfl (lk_cons rfl (fun _ _ h => lk_nil h)))))) ⟨Nat.zero_le _, by simpa [revB] using hq0, hvq⟩ ?_
  clear hvq hq0
  rintro ⟨i, yq⟩ ⟨hi, hGq, hvq⟩
  simp only at hi hGq hvq ⊢
  rcases Nat.lt_or_ge i bs.length with hlt | hge
  · have c3 : cm .lss (i : Int) bs.length = true := cm_lo (by omega)
    have c4 : ar .add .i64 (i : Int) 1 = ((i + 1 : Nat) : Int) := wrap_nat (by omega)
    have c5 : ar .sub .i64 (bs.length : Int) 1 = ((bs.length - 1 : Nat) : Int) := by
      show IntKind.i64.wrap _ = _
      rw [wrap_nat (by omega)]; omega
    have c6 : ar .sub .i64 ((bs.length - 1 : Nat) : Int) (i : Int) = ((bs.length - 1 - i : Nat) : Int) := by
      show IntKind.i64.wrap _ = _
      rw [wrap_nat (by omega)]; omega
    obtain ⟨b, hb⟩ : ∃ b, bs[bs.length - 1 - i]? = some b := ⟨_, List.getElem?_eq_getElem (by omega)⟩
    have hlt2 : bs.length - 1 - i < bs.length := by omega
    obtain ⟨ha1, hal⟩ := flat_at encB_len hb
    have hGq2 : ∀ y', osG 3 bs.length (setL ((revB bs i).flatMap encB) (i * 3) (encB b)) y' → osG 3 bs.length ((revB bs (i + 1)).flatMap encB) y' := fun y' h => by
      rw [flat_setB encB_len _ _ _ (by rw [revB_len bs i hi]; exact hlt), revB_succ hlt hb] at h; exact h
    repeat' (first | refine C.make (osC 39 yp []) (by kernel_rfl) (h := ?_) | refine C.seq ?_ | refine C.region ?_ | refine L.nil ?_ | refine D.seq ?_ | refine L.move (k := ?_) | refine L.cm (c := ?_) | refine L.fieldAddr (c := ?_) | refine C.yes (h1 := ?_) | refine C.block ?_ | refine C.skip ?_ | refine L.loadF opb (i := 0) rfl (c := ?_) | refine L.loadF opb (i := 1) rfl (c := ?_) | refine L.loadF opb (i := 2) rfl (c := ?_) | refine L.loadOA opb (i := 0) (ho := rfl) (hi := Nat.le_refl 3) (hcs := rfl) (c := ?_) | refine L.loadF oqb (i := 0) rfl (c := ?_) | refine L.loadF oqb (i := 1) rfl (c := ?_) | refine L.loadF oqb (i := 2) rfl (c := ?_) | refine L.loadOA oqb (i := 0) (ho := rfl) (hi := Nat.le_refl 3) (hcs := rfl) (c := ?_) | refine L.lenR s1 (c := ?_))
    iterate 14 ((refine QP.quiet (v := ?_) (by exact rfl) (by exact rfl) (fun w2 g2 => ?_) ?_; rotate_left); have opb2 := opb.base g2 _ (fun _ h => h); have oqb2 := oqb.base g2 _ (fun _ h => h); have o12 := (q1.base g2 _ (fun _ h => h)).2 (by omega); repeat (first | refine L.nil ?_ | refine L.move (k := ?_) | refine L.ar (c := ?_) | refine L.fieldAddr (c := ?_) | exact D.endsQ | refine L.loadF opb2 (i := 0) rfl (c := ?_) | refine L.loadF opb2 (i := 1) rfl (c := ?_) | refine L.loadF opb2 (i := 2) rfl (c := ?_) | refine L.loadOA opb2 (i := 0) (ho := rfl) (hi := Nat.le_refl 3) (hcs := rfl) (c := ?_) | refine L.loadF oqb2 (i := 0) rfl (c := ?_) | refine L.loadF oqb2 (i := 1) rfl (c := ?_) | refine L.loadF oqb2 (i := 2) rfl (c := ?_) | refine L.loadOA oqb2 (i := 0) (ho := rfl) (hi := Nat.le_refl 3) (hcs := rfl) (c := ?_) | refine L.lenR s1 (c := ?_) | refine L.indexR s1 hlt2 (c := ?_) | refine L.indexR sq hlt (c := ?_) | refine L.loadOA o12 (i := (bs.length - 1 - i) * 3) (ho := rfl) (hi := hal) (hcs := ha1) (c := ?_)))
    refine QP.mk0 (osC 33 yq []) (fun F B => ∃ y', osG 3 bs.length ((revB bs (i + 1)).flatMap encB) y' ∧ osV bs.length y' = vq ∧ F = [] ∧ B = osC 33 y' []) (h := fun w2 g2 => ?_) (k := ?_)
    · refine L.setUA [] (L2 := osC 39 yp []) (vs := encB b) hGq (osC_app _ _ _).symm hvq hlt rfl rfl (c := fun hq' hqv' => ?_)
      refine L.nil ?_
      exact D.endsP0 [] (osC 33 (osSetL yq (i * 3) (encB b)) []) (hM := osC_app _ _ _) (hF := fun _ _ h => by cases h) (hR := ⟨_, hGq2 _ hq', hqv', rfl, rfl⟩)
    refine QP.fin1 [none, none, none, none, none, none, none, none, none, none, none, none, none, none, some []] 14 (nds := [[], [], [], [], [], [], [], [], [], [], [], [], [], [], []]) (hM := by show List.Perm _ ((osC 33 yq [] ++ []) ++ _); rw [List.append_nil]) (k := ?_)
    rintro F B ⟨y', hG', hv', rfl, rfl⟩
    repeat' (first | refine C.region ?_ | refine L.nil ?_ | refine D.seq ?_ | refine L.move (k := ?_) | refine L.assign (k := ?_) | refine L.ar (c := ?_) | refine D.blkNormal ?_)
    exact D.then_ fun a1 w1 hs => ⟨(i + 1, y'), ⟨by omega, hG', hv'⟩, by simp only; omega, hs.lessE rfl (lk_cons rfl (lk_cons rfl (lk_cons rfl (lk_cons rfl (fun _ _ h => lk_nil h)))))⟩
  have c3 : cm .lss (i : Int) bs.length = false := cm_lo' (by omega)
  have hil : i = bs.length := by omega
  rw [hil, revB_all] at hGq
  repeat' (first | refine C.seq ?_ | refine C.region ?_ | refine L.nil ?_ | refine D.seq ?_ | refine L.move (k := ?_) | refine L.assign (k := ?_) | refine L.cm (c := ?_) | refine L.fieldAddr (c := ?_) | refine C.no (h1 := ?_) | refine C.block ?_ | refine C.exit ?_ | refine D.thenExit ?_ | refine D.blkExit ?_ | refine D.seqR (h := ?_) | refine L.loadF opb (i := 0) rfl (c := ?_) | refine L.loadF opb (i := 1) rfl (c := ?_) | refine L.loadF opb (i := 2) rfl (c := ?_) | refine L.loadOA opb (i := 0) (ho := rfl) (hi := Nat.le_refl 3) (hcs := rfl) (c := ?_) | refine L.loadF oqb (i := 0) rfl (c := ?_) | refine L.loadF oqb (i := 1) rfl (c := ?_) | refine L.loadF oqb (i := 2) rfl (c := ?_) | refine L.loadOA oqb (i := 0) (ho := rfl) (hi := Nat.le_refl 3) (hcs := rfl) (c := ?_) | refine L.lenR s1 (c := ?_))
  have hbl2 : bs.length ≤ 40 := hl2
  refine C.loop (α := Nat × OS) (fun x => x.1 ≤ os.length ∧ osG 8 os.length ((renO bs.length os x.1).flatMap encO) x.2 ∧ osV os.length x.2 = vp)
    (fun x => [(1, .int .u64 n), (2, .pointer (some ⟨pb, 0, none⟩)), (7, .pointer (some ⟨qb, 0, none⟩)), (9, .int .i64 x.1)]) (fun x => osC 33 yq [] ++ osC 39 x.2 []) (fun x => os.length - x.1) (0, yp)
    (fun a w hs => hs.lessE rfl (lk_cons rfl (lk_cons rfl (lk_cons rfl (lk_cons rfl (fun _ _ h => lk_nil h)))))) ⟨Nat.zero_le _, by simpa [renO] using hp0, hvp⟩ ?_
  clear hvp hp0
  rintro ⟨j, yp⟩ ⟨hj, hGp, hvp⟩
  simp only at hj hGp hvp ⊢
  rcases Nat.lt_or_ge j os.length with hlt | hge2
  · have c3 : cm .lss (j : Int) os.length = true := cm_lo (by omega)
    have c4 : ar .add .i64 (j : Int) 1 = ((j + 1 : Nat) : Int) := wrap_nat (by omega)
    obtain ⟨o, ho⟩ : ∃ o, os[j]? = some o := ⟨_, List.getElem?_eq_getElem hlt⟩
    have hro := renO_get (nb := bs.length) ho
    have hv0 := flat_get encO_len _ j o hro 0 (by decide)
    have hv6 := flat_get encO_len _ j o hro 6 (by decide)
    have hoo := hok o (List.mem_of_getElem? ho)
    have hGp2 : ∀ y', osG 8 os.length (((renO bs.length os j).flatMap encO).set (j * 8 + 6) (.int .i64 ((bs.length : Int) - 1 - o.buf))) y' → mem o = true → osG 8 os.length ((renO bs.length os (j + 1)).flatMap encO) y' := fun y' h hm => by
      rw [flat_setO _ _ o _ hro] at h
      have : ren bs.length o = ⟨o.k, o.d, o.e, o.a, o.b, o.c, (bs.length : Int) - 1 - o.buf, o.imm⟩ := by unfold ren; rw [if_pos hm]
      rw [← this, renO_succ ho] at h; exact h
    have hMp : osC 33 yq [] ++ osC 39 yp [] = osC 33 yq [] ++ osC 39 yp [] := rfl
    cases hm : mem o with
    | false =>
      have hm1 : cm .eql o.k 14 = false := by unfold mem at hm; exact (Bool.or_eq_false_iff.1 hm).1
      have hm2 : cm .eql o.k 15 = false := by unfold mem at hm; exact (Bool.or_eq_false_iff.1 hm).2
      repeat' (first | refine C.seq ?_ | refine C.region ?_ | refine L.nil ?_ | refine D.seq ?_ | refine L.move (k := ?_) | refine L.assign (k := ?_) | refine L.cm (c := ?_) | refine L.ar (c := ?_) | refine L.fieldAddr (c := ?_) | refine C.yes (h1 := ?_) | refine C.no (h1 := ?_) | refine L.pickF (k := ?_) | refine L.want (k := ?_) | refine C.block ?_ | refine D.blkNormal ?_ | refine C.skip ?_ | refine L.loadF opb (i := 0) rfl (c := ?_) | refine L.loadF opb (i := 1) rfl (c := ?_) | refine L.loadF opb (i := 2) rfl (c := ?_) | refine L.loadOA opb (i := 0) (ho := rfl) (hi := Nat.le_refl 3) (hcs := rfl) (c := ?_) | refine L.loadF oqb (i := 0) rfl (c := ?_) | refine L.loadF oqb (i := 1) rfl (c := ?_) | refine L.loadF oqb (i := 2) rfl (c := ?_) | refine L.loadOA oqb (i := 0) (ho := rfl) (hi := Nat.le_refl 3) (hcs := rfl) (c := ?_) | refine L.lenR sp (c := ?_) | refine L.indexR sp hlt (c := ?_) | refine L.loadU (osC 33 yq []) (L2 := []) (i := j) (j := 0) hGp rfl hlt (by decide) hv0 (hb := by rw [hvp]) (ho := by rw [hvp]) (c := ?_))
      exact D.then_ fun a1 w1 hs => ⟨(j + 1, yp), ⟨by omega, by rw [← renO_no ho hm]; exact hGp, hvp⟩, by simp only; omega, hs.lessE rfl (lk_cons rfl (lk_cons rfl (lk_cons rfl (lk_cons rfl (fun _ _ h => lk_nil h)))))⟩
    | true =>
    have c7 : ar .sub .i64 ((bs.length - 1 : Nat) : Int) o.buf = (bs.length : Int) - 1 - o.buf := by
      have hb := hoo.buf (by simpa [mem, cm] using hm)
      show IntKind.i64.wrap _ = _
      rw [wrap_nat (by omega)]; omega
    have c5 : ar .sub .i64 (bs.length : Int) 1 = ((bs.length - 1 : Nat) : Int) := by
      have hb := hoo.buf (by simpa [mem, cm] using hm)
      show IntKind.i64.wrap _ = _
      rw [wrap_nat (by omega)]; omega
    cases hm1 : cm .eql o.k 14 with
    | true =>
      repeat' (first | refine C.make (osC 33 yq []) (by kernel_rfl) (h := ?_) | refine C.seq ?_ | refine C.region ?_ | refine L.nil ?_ | refine D.seq ?_ | refine L.move (k := ?_) | refine L.cm (c := ?_) | refine L.fieldAddr (c := ?_) | refine C.yes (h1 := ?_) | refine L.pickT (k := ?_) | refine L.pass (k := ?_) | refine C.block ?_ | refine C.skip ?_ | refine L.loadF opb (i := 0) rfl (c := ?_) | refine L.loadF opb (i := 1) rfl (c := ?_) | refine L.loadF opb (i := 2) rfl (c := ?_) | refine L.loadOA opb (i := 0) (ho := rfl) (hi := Nat.le_refl 3) (hcs := rfl) (c := ?_) | refine L.loadF oqb (i := 0) rfl (c := ?_) | refine L.loadF oqb (i := 1) rfl (c := ?_) | refine L.loadF oqb (i := 2) rfl (c := ?_) | refine L.loadOA oqb (i := 0) (ho := rfl) (hi := Nat.le_refl 3) (hcs := rfl) (c := ?_) | refine L.lenR sp (c := ?_) | refine L.indexR sp hlt (c := ?_) | refine L.loadU (osC 33 yq []) (L2 := []) (i := j) (j := 0) hGp rfl hlt (by decide) hv0 (hb := by rw [hvp]) (ho := by rw [hvp]) (c := ?_))
      iterate 12 ((refine QP.quiet (v := ?_) (by exact rfl) (by exact rfl) (fun w2 g2 => ?_) ?_; rotate_left); have opb2 := opb.base g2 _ (fun _ h => h); have oqb2 := oqb.base g2 _ (fun _ h => h); repeat (first | refine L.nil ?_ | refine L.move (k := ?_) | refine L.ar (c := ?_) | refine L.fieldAddr (c := ?_) | exact D.endsQ | refine L.loadF opb2 (i := 0) rfl (c := ?_) | refine L.loadF opb2 (i := 1) rfl (c := ?_) | refine L.loadF opb2 (i := 2) rfl (c := ?_) | refine L.loadOA opb2 (i := 0) (ho := rfl) (hi := Nat.le_refl 3) (hcs := rfl) (c := ?_) | refine L.loadF oqb2 (i := 0) rfl (c := ?_) | refine L.loadF oqb2 (i := 1) rfl (c := ?_) | refine L.loadF oqb2 (i := 2) rfl (c := ?_) | refine L.loadOA oqb2 (i := 0) (ho := rfl) (hi := Nat.le_refl 3) (hcs := rfl) (c := ?_) | refine L.lenR s1 (c := ?_) | refine L.lenR sp (c := ?_) | refine L.indexR sp hlt (c := ?_)))
      (refine QP.quietI (v := ?_) [16] (osC 39 yp [] ++ []) (by exact rfl) (by exact rfl) (fun w2 g2 => ?_) ?_; rotate_left)
      · refine L.loadU [] (L2 := osC 33 yq []) (i := j) (j := 6) hGp (by rw [List.append_nil]; exact (osC_app _ _ _).symm) hlt (by decide) hv6 (hb := by rw [hvp]) (ho := by rw [hvp]) (c := ?_)
        repeat (first | refine L.nil ?_ | exact D.endsQ)
      iterate 3 ((refine QP.quiet (v := ?_) (by exact rfl) (by exact rfl) (fun w2 g2 => ?_) ?_; rotate_left); have opb2 := opb.base g2 _ (fun _ h => h); have oqb2 := oqb.base g2 _ (fun _ h => h); repeat (first | refine L.nil ?_ | refine L.ar (c := ?_) | refine L.fieldAddr (c := ?_) | exact D.endsQ | refine L.loadF opb2 (i := 0) rfl (c := ?_) | refine L.loadF opb2 (i := 1) rfl (c := ?_) | refine L.loadF opb2 (i := 2) rfl (c := ?_) | refine L.loadOA opb2 (i := 0) (ho := rfl) (hi := Nat.le_refl 3) (hcs := rfl) (c := ?_) | refine L.loadF oqb2 (i := 0) rfl (c := ?_) | refine L.loadF oqb2 (i := 1) rfl (c := ?_) | refine L.loadF oqb2 (i := 2) rfl (c := ?_) | refine L.loadOA oqb2 (i := 0) (ho := rfl) (hi := Nat.le_refl 3) (hcs := rfl) (c := ?_) | refine L.lenR s1 (c := ?_) | refine L.lenR sp (c := ?_) | refine L.indexR sp hlt (c := ?_)))
      refine QP.mk0 (osC 39 yp []) (fun F B => ∃ y', osG 8 os.length ((renO bs.length os (j + 1)).flatMap encO) y' ∧ osV os.length y' = vp ∧ F = [] ∧ B = osC 39 y' []) (h := fun w2 g2 => ?_) (k := ?_)
      · refine L.setU [] (L2 := osC 33 yq []) (j := 6) hGp (osC_app _ _ _).symm hvp hlt (by decide) (c := fun hq' hqv' => ?_)
        refine L.nil ?_
        exact D.endsP0 [] (osC 39 (osSet yp (j * 8 + 6) (.int .i64 ((bs.length : Int) - 1 - o.buf))) []) (hM := osC_app _ _ _) (hF := fun _ _ h => by cases h) (hR := ⟨_, hGp2 _ hq' hm, hqv', rfl, rfl⟩)
      refine QP.fin1 [none, none, none, none, none, none, none, none, none, none, none, none, none, none, none, none, some []] 16 (nds := [[], [], [], [], [], [], [], [], [], [], [], [], [16], [], [], [], []]) (hM := by show List.Perm _ ((osC 39 yp [] ++ []) ++ _); rw [List.append_nil]; exact List.perm_append_comm) (k := ?_)
      rintro F B ⟨y', hG', hv', rfl, rfl⟩
      refine D.perm (M' := osC 33 yq [] ++ osC 39 y' []) List.perm_append_comm ?_
      repeat' (first | refine C.region ?_ | refine L.nil ?_ | refine D.seq ?_ | refine L.move (k := ?_) | refine L.assign (k := ?_) | refine L.ar (c := ?_) | refine D.blkNormal ?_)
      exact D.then_ fun a1 w1 hs => ⟨(j + 1, y'), ⟨by omega, hG', hv'⟩, by simp only; omega, hs.lessE rfl (lk_cons rfl (lk_cons rfl (lk_cons rfl (lk_cons rfl (fun _ _ h => lk_nil h)))))⟩
    | false =>
      have hm2 : cm .eql o.k 15 = true := by unfold mem at hm; rw [hm1, Bool.false_or] at hm; exact hm
      repeat' (first | refine C.make (osC 33 yq []) (by kernel_rfl) (h := ?_) | refine C.seq ?_ | refine C.region ?_ | refine L.nil ?_ | refine D.seq ?_ | refine L.move (k := ?_) | refine L.cm (c := ?_) | refine L.fieldAddr (c := ?_) | refine C.yes (h1 := ?_) | refine L.pickF (k := ?_) | refine L.want (k := ?_) | refine C.block ?_ | refine C.skip ?_ | refine L.loadF opb (i := 0) rfl (c := ?_) | refine L.loadF opb (i := 1) rfl (c := ?_) | refine L.loadF opb (i := 2) rfl (c := ?_) | refine L.loadOA opb (i := 0) (ho := rfl) (hi := Nat.le_refl 3) (hcs := rfl) (c := ?_) | refine L.loadF oqb (i := 0) rfl (c := ?_) | refine L.loadF oqb (i := 1) rfl (c := ?_) | refine L.loadF oqb (i := 2) rfl (c := ?_) | refine L.loadOA oqb (i := 0) (ho := rfl) (hi := Nat.le_refl 3) (hcs := rfl) (c := ?_) | refine L.lenR sp (c := ?_) | refine L.indexR sp hlt (c := ?_) | refine L.loadU (osC 33 yq []) (L2 := []) (i := j) (j := 0) hGp rfl hlt (by decide) hv0 (hb := by rw [hvp]) (ho := by rw [hvp]) (c := ?_))
      iterate 12 ((refine QP.quiet (v := ?_) (by exact rfl) (by exact rfl) (fun w2 g2 => ?_) ?_; rotate_left); have opb2 := opb.base g2 _ (fun _ h => h); have oqb2 := oqb.base g2 _ (fun _ h => h); repeat (first | refine L.nil ?_ | refine L.move (k := ?_) | refine L.ar (c := ?_) | refine L.fieldAddr (c := ?_) | exact D.endsQ | refine L.loadF opb2 (i := 0) rfl (c := ?_) | refine L.loadF opb2 (i := 1) rfl (c := ?_) | refine L.loadF opb2 (i := 2) rfl (c := ?_) | refine L.loadOA opb2 (i := 0) (ho := rfl) (hi := Nat.le_refl 3) (hcs := rfl) (c := ?_) | refine L.loadF oqb2 (i := 0) rfl (c := ?_) | refine L.loadF oqb2 (i := 1) rfl (c := ?_) | refine L.loadF oqb2 (i := 2) rfl (c := ?_) | refine L.loadOA oqb2 (i := 0) (ho := rfl) (hi := Nat.le_refl 3) (hcs := rfl) (c := ?_) | refine L.lenR s1 (c := ?_) | refine L.lenR sp (c := ?_) | refine L.indexR sp hlt (c := ?_)))
      (refine QP.quietI (v := ?_) [16] (osC 39 yp [] ++ []) (by exact rfl) (by exact rfl) (fun w2 g2 => ?_) ?_; rotate_left)
      · refine L.loadU [] (L2 := osC 33 yq []) (i := j) (j := 6) hGp (by rw [List.append_nil]; exact (osC_app _ _ _).symm) hlt (by decide) hv6 (hb := by rw [hvp]) (ho := by rw [hvp]) (c := ?_)
        repeat (first | refine L.nil ?_ | exact D.endsQ)
      iterate 3 ((refine QP.quiet (v := ?_) (by exact rfl) (by exact rfl) (fun w2 g2 => ?_) ?_; rotate_left); have opb2 := opb.base g2 _ (fun _ h => h); have oqb2 := oqb.base g2 _ (fun _ h => h); repeat (first | refine L.nil ?_ | refine L.ar (c := ?_) | refine L.fieldAddr (c := ?_) | exact D.endsQ | refine L.loadF opb2 (i := 0) rfl (c := ?_) | refine L.loadF opb2 (i := 1) rfl (c := ?_) | refine L.loadF opb2 (i := 2) rfl (c := ?_) | refine L.loadOA opb2 (i := 0) (ho := rfl) (hi := Nat.le_refl 3) (hcs := rfl) (c := ?_) | refine L.loadF oqb2 (i := 0) rfl (c := ?_) | refine L.loadF oqb2 (i := 1) rfl (c := ?_) | refine L.loadF oqb2 (i := 2) rfl (c := ?_) | refine L.loadOA oqb2 (i := 0) (ho := rfl) (hi := Nat.le_refl 3) (hcs := rfl) (c := ?_) | refine L.lenR s1 (c := ?_) | refine L.lenR sp (c := ?_) | refine L.indexR sp hlt (c := ?_)))
      refine QP.mk0 (osC 39 yp []) (fun F B => ∃ y', osG 8 os.length ((renO bs.length os (j + 1)).flatMap encO) y' ∧ osV os.length y' = vp ∧ F = [] ∧ B = osC 39 y' []) (h := fun w2 g2 => ?_) (k := ?_)
      · refine L.setU [] (L2 := osC 33 yq []) (j := 6) hGp (osC_app _ _ _).symm hvp hlt (by decide) (c := fun hq' hqv' => ?_)
        refine L.nil ?_
        exact D.endsP0 [] (osC 39 (osSet yp (j * 8 + 6) (.int .i64 ((bs.length : Int) - 1 - o.buf))) []) (hM := osC_app _ _ _) (hF := fun _ _ h => by cases h) (hR := ⟨_, hGp2 _ hq' hm, hqv', rfl, rfl⟩)
      refine QP.fin1 [none, none, none, none, none, none, none, none, none, none, none, none, none, none, none, none, some []] 16 (nds := [[], [], [], [], [], [], [], [], [], [], [], [], [16], [], [], [], []]) (hM := by show List.Perm _ ((osC 39 yp [] ++ []) ++ _); rw [List.append_nil]; exact List.perm_append_comm) (k := ?_)
      rintro F B ⟨y', hG', hv', rfl, rfl⟩
      refine D.perm (M' := osC 33 yq [] ++ osC 39 y' []) List.perm_append_comm ?_
      repeat' (first | refine C.region ?_ | refine L.nil ?_ | refine D.seq ?_ | refine L.move (k := ?_) | refine L.assign (k := ?_) | refine L.ar (c := ?_) | refine D.blkNormal ?_)
      exact D.then_ fun a1 w1 hs => ⟨(j + 1, y'), ⟨by omega, hG', hv'⟩, by simp only; omega, hs.lessE rfl (lk_cons rfl (lk_cons rfl (lk_cons rfl (lk_cons rfl (fun _ _ h => lk_nil h)))))⟩
  have c3 : cm .lss (j : Int) os.length = false := cm_lo' (by omega)
  have hjl : j = os.length := by omega
  rw [hjl, renO_all] at hGp
  repeat' (first | refine C.seq ?_ | refine C.region ?_ | refine L.nil ?_ | refine D.seq ?_ | refine L.move (k := ?_) | refine L.cm (c := ?_) | refine L.fieldAddr (c := ?_) | refine C.no (h1 := ?_) | refine C.exit ?_ | refine D.thenExit ?_ | refine D.blkExit ?_ | refine D.seqR (h := ?_) | refine L.loadF opb (i := 0) rfl (c := ?_) | refine L.loadF opb (i := 1) rfl (c := ?_) | refine L.loadF opb (i := 2) rfl (c := ?_) | refine L.loadOA opb (i := 0) (ho := rfl) (hi := Nat.le_refl 3) (hcs := rfl) (c := ?_) | refine L.loadF oqb (i := 0) rfl (c := ?_) | refine L.loadF oqb (i := 1) rfl (c := ?_) | refine L.loadF oqb (i := 2) rfl (c := ?_) | refine L.loadOA oqb (i := 0) (ho := rfl) (hi := Nat.le_refl 3) (hcs := rfl) (c := ?_) | refine L.lenR sp (c := ?_))
  refine L.base _ (M' := []) (List.append_nil _).symm (fun w2 h2 => ?_)
  have h2' := h2.nilr
  have rq := hGq.rdm (T := 33) h2 (fun x hx => by simp [hx])
  have rp := hGp.rdm (T := 39) h2 (fun x hx => by simp [hx])
  rw [hvq] at rq
  rw [hvp] at rp
  have opb2 := opb.at h2
  have oqb2 := oqb.at h2
  have p1 := q1.at h2
  have p2 := q2.at h2
  clear oqb opb q1 q2
  repeat' (first | fail | refine L.loadF opb2 (i := 0) rfl (c := ?_) | refine L.loadF opb2 (i := 1) rfl (c := ?_) | refine L.loadF opb2 (i := 2) rfl (c := ?_) | refine L.loadOA opb2 (i := 0) (ho := rfl) (hi := Nat.le_refl 3) (hcs := rfl) (c := ?_))
  refine L.callP [] kOwn (hpre := fun w hw => ⟨p1.at hw, p2.at hw⟩) (k := ?_)
  rintro v B ⟨y1, y2, hg1, hg2, rfl, rfl⟩
  rw [hdrop_nil, osC_app 33 y1 (osC 39 y2 []), List.append_nil]
  unfold shut progV
  repeat' (first | refine L.alloc (c := fun _ => ?_))
  rename_i rb
  refine L.storeV 0 (vs := [.int .i64 regs, osV bs.length y1, osV os.length y2]) (ho := by simp only [List.all_cons, List.all_nil, oneB_os, Bool.and_true]; rfl) (hl := rfl) (M' := (rb, ob [.int .i64 regs, osV bs.length y1, osV os.length y2] 25) :: (osC 33 y1 [] ++ osC 39 y2 [])) (hM := rfl) (c := ?_)
  refine L.nil ?_
  have c8 : ar .add .i64 regs 1 = regs + 1 := by
    show IntKind.i64.wrap _ = _
    exact wrap_nat (by omega)
  have kop := op13_S 1 regs (-1) (-1) 0 n
  repeat' (first | refine C.make (osC 33 y1 [] ++ osC 39 y2 []) (by kernel_rfl) (h := ?_) | refine C.seq ?_ | refine C.region ?_ | refine L.nil ?_ | refine D.seq ?_ | refine L.ar (c := ?_) | refine L.fieldAddr (c := ?_) | refine L.storeV 0 (c := ?_) | refine D.seqR (h := ?_) | refine L.loadF opb2 (i := 0) rfl (c := ?_) | refine L.loadF opb2 (i := 1) rfl (c := ?_) | refine L.loadF opb2 (i := 2) rfl (c := ?_) | refine L.loadOA opb2 (i := 0) (ho := rfl) (hi := Nat.le_refl 3) (hcs := rfl) (c := ?_))
  iterate 4 ((refine QP.quiet (v := ?_) (by exact rfl) (by exact rfl) (fun w3 g3 => ?_) ?_; rotate_left); have opb3 := opb2.base g3 _ (fun _ h => h); repeat (first | refine L.nil ?_ | refine L.move (k := ?_) | refine L.fieldAddr (c := ?_) | exact D.endsQ | refine L.loadF opb3 (i := 0) rfl (c := ?_) | refine L.loadF opb3 (i := 1) rfl (c := ?_) | refine L.loadF opb3 (i := 2) rfl (c := ?_) | refine L.loadOA opb3 (i := 0) (ho := rfl) (hi := Nat.le_refl 3) (hcs := rfl) (c := ?_) | refine L.callQ (kop) (k := ?_)))
  refine QP.mk0 [] (fun F B => ∃ nb, F = [(111, .slice (some ⟨nb, 0, none⟩) 1 1)] ∧ B = [(nb, ob [.int .i64 1, .int .i64 regs, .int .i64 (-1), .int .i64 (-1), .int .i64 (-1), .int .i64 (-1), .int .i64 0, .int .u64 n] 39)]) (h := fun w3 g3 => ?_) (k := ?_)
  · rw [List.nil_append]
    unfold aggO
    repeat (first | refine L.nil ?_ | refine L.buildS (c := fun _ => ?_))
    exact D.endsP1 [_] (hR := ⟨_, rfl, rfl⟩)
  iterate 2 ((refine QP.quiet (v := ?_) (by exact rfl) (by exact rfl) (fun w3 g3 => ?_) ?_; rotate_left); have opb3 := opb2.base g3 _ (fun _ h => h); repeat (first | refine L.nil ?_ | refine L.fieldAddr (c := ?_) | exact D.endsQ | refine L.loadF opb3 (i := 0) rfl (c := ?_) | refine L.loadF opb3 (i := 1) rfl (c := ?_) | refine L.loadF opb3 (i := 2) rfl (c := ?_) | refine L.loadOA opb3 (i := 0) (ho := rfl) (hi := Nat.le_refl 3) (hcs := rfl) (c := ?_)))
  refine QP.mk1 4 [] (fun F B => ∃ y', osG 8 (1 + os.length) ((ahead regs n :: os).flatMap encO) y' ∧ F = [(114, osV (1 + os.length) y')] ∧ B = osC 39 y' []) (h := ?_) (k := ?_)
  · rintro F B ⟨nb, rfl, rfl⟩ w3 g3
    refine L.appendU [] (L2 := (osC 33 y1 [] ++ osC 39 y2 [])) (y := some (nb, [.int .i64 1, .int .i64 regs, .int .i64 (-1), .int .i64 (-1), .int .i64 (-1), .int .i64 (-1), .int .i64 0, .int .u64 n], 1)) (m := 1) (k := os.length) (cs := encO (ahead regs n)) (news := os.flatMap encO) ⟨rfl, Nat.le_refl _, by unfold maxLen; decide, rfl⟩ rfl (fun w hw => (p2.base g3 _ (fun _ h => h)).at hw) (flat_len encO_len os) (ones_flat ones_O os) (by unfold maxLen; omega) (by omega) (c := fun y' hG' _ => ?_)
    refine L.nil ?_
    exact D.endsP1 (osC 39 y' []) (hM := osC_app _ _ _) (hR := ⟨y', hG', rfl, rfl⟩)
  iterate 1 ((refine QP.quiet (v := ?_) (by exact rfl) (by exact rfl) (fun w3 g3 => ?_) ?_; rotate_left); repeat (first | refine L.nil ?_ | refine L.fieldAddr (c := ?_) | exact D.endsQ))
  refine QP.mk1 7 [(rb, ob [.int .i64 (regs + 1), osV bs.length y1, osV os.length y2] 25)] (fun F B => ∃ y', osG 8 (1 + os.length) ((ahead regs n :: os).flatMap encO) y' ∧ F = [] ∧ B = (rb, ob [.int .i64 (regs + 1), osV bs.length y1, osV (1 + os.length) y'] 25) :: osC 39 y' []) (h := ?_) (k := ?_)
  · rintro F B ⟨y', hG', rfl, rfl⟩ w3 g3
    refine L.perm (M' := (rb, ob [.int .i64 (regs + 1), osV bs.length y1, osV os.length y2] 25) :: (osC 39 y' [] ++ (osC 33 y1 [] ++ osC 39 y2 []))) List.perm_middle.symm ?_
    refine L.storeV 0 (hc := osV_cells _ _) (ho := osV_one _ _) (hl := rfl) (M' := (rb, ob [.int .i64 (regs + 1), osV bs.length y1, osV (1 + os.length) y'] 25) :: (osC 39 y' [] ++ (osC 33 y1 [] ++ osC 39 y2 []))) (hM := rfl) (c := ?_)
    refine L.nil ?_
    exact D.endsP0 [] ((rb, ob [.int .i64 (regs + 1), osV bs.length y1, osV (1 + os.length) y'] 25) :: osC 39 y' []) (hM := rfl) (hF := fun _ _ h => by cases h) (hR := ⟨y', hG', rfl, rfl⟩)
  refine QP.fin1 [none, none, none, none, some [], none, none, some [4], none, some [7]] 9 (nds := [[], [], [], [], [], [], [], [], [], []]) (hM := List.Perm.refl _) (k := ?_)
  rintro F B ⟨y', hG', rfl, rfl⟩
  refine D.seqR (h := ?_)
  refine C.base _ (M' := []) (List.append_nil _).symm (fun w3 h3 => ?_)
  have h3' := h3.nilr
  have r1 := hg1.rdm (T := 33) h3 (fun x hx => by simp [hx])
  have r2 := hG'.rdm (T := 39) h3 (fun x hx => by simp [hx])
  have orb3 := Old.own (h3.holds (rb, ob [.int .i64 (regs + 1), osV bs.length y1, osV (1 + os.length) y'] 25) (by simp)) (A := []) (by simp) _ List.take_length
  have opb3 := opb2.at h3
  have oqb3 := oqb2.at h3
  have rq3 := rq.at h3
  have rp3 := rp.at h3
  have p13 := p1.at h3
  have p23 := p2.at h3
  clear p1 p2 rq rp opb2 oqb2
  have kA := Secret_S regs vb vo bs os hbl
  have kB := Secret_S regs vq vp bs.reverse (os.map (ren bs.length)) (by simpa using hbl)
  have kC := Secret_S (regs + 1) (osV bs.length y1) (osV (1 + os.length) y') bs (ahead regs n :: os) hbl
  have hoa : (ahead regs n :: os).length = 1 + os.length := by simp [Nat.add_comm]
  refine C.seq (C.makeA (h := ?_))
  (refine QP.quiet (v := ?_) (by exact rfl) (by exact rfl) (fun w4 g4 => ?_) ?_; rotate_left); have opb4 := opb3.base g4 _ (fun _ h => h); have oqb4 := oqb3.base g4 _ (fun _ h => h); have orb4 := orb3.base g4 _ (fun _ h => h); repeat (first | refine L.nil ?_ | exact D.endsQ | refine L.loadF opb4 (i := 0) rfl (c := ?_) | refine L.loadF opb4 (i := 1) rfl (c := ?_) | refine L.loadF opb4 (i := 2) rfl (c := ?_) | refine L.loadOA opb4 (i := 0) (ho := rfl) (hi := Nat.le_refl 3) (hcs := rfl) (c := ?_) | refine L.loadF oqb4 (i := 0) rfl (c := ?_) | refine L.loadF oqb4 (i := 1) rfl (c := ?_) | refine L.loadF oqb4 (i := 2) rfl (c := ?_) | refine L.loadOA oqb4 (i := 0) (ho := rfl) (hi := Nat.le_refl 3) (hcs := rfl) (c := ?_) | refine L.loadF orb4 (i := 0) rfl (c := ?_) | refine L.loadF orb4 (i := 1) rfl (c := ?_) | refine L.loadF orb4 (i := 2) rfl (c := ?_) | refine L.loadOA orb4 (i := 0) (ho := rfl) (hi := Nat.le_refl 3) (hcs := rfl) (c := ?_))
  refine QP.mk0 [] (fun F B => ∃ l y, SecIs regs bs os l ∧ osG 1 l.length (l.map Value.bool) y ∧ F = [(117, osV l.length y)] ∧ B = osC 4 y []) (h := fun w4 g4 => ?_) (k := ?_)
  · refine L.callP [] kA (hpre := fun w' hw => ⟨(p13.base g4 _ (fun _ h => h)).at hw, (p23.base g4 _ (fun _ h => h)).at hw⟩) (k := ?_)
    rintro v B ⟨l, y, hs, hG, rfl, rfl⟩
    rw [hdrop_nil]
    refine L.nil ?_
    exact D.endsP1 (osC 4 y []) (hR := ⟨l, y, hs, hG, rfl, rfl⟩)
  (refine QP.quiet (v := ?_) (by exact rfl) (by exact rfl) (fun w4 g4 => ?_) ?_; rotate_left); have opb4 := opb3.base g4 _ (fun _ h => h); have oqb4 := oqb3.base g4 _ (fun _ h => h); have orb4 := orb3.base g4 _ (fun _ h => h); repeat (first | refine L.nil ?_ | exact D.endsQ | refine L.loadF opb4 (i := 0) rfl (c := ?_) | refine L.loadF opb4 (i := 1) rfl (c := ?_) | refine L.loadF opb4 (i := 2) rfl (c := ?_) | refine L.loadOA opb4 (i := 0) (ho := rfl) (hi := Nat.le_refl 3) (hcs := rfl) (c := ?_) | refine L.loadF oqb4 (i := 0) rfl (c := ?_) | refine L.loadF oqb4 (i := 1) rfl (c := ?_) | refine L.loadF oqb4 (i := 2) rfl (c := ?_) | refine L.loadOA oqb4 (i := 0) (ho := rfl) (hi := Nat.le_refl 3) (hcs := rfl) (c := ?_) | refine L.loadF orb4 (i := 0) rfl (c := ?_) | refine L.loadF orb4 (i := 1) rfl (c := ?_) | refine L.loadF orb4 (i := 2) rfl (c := ?_) | refine L.loadOA orb4 (i := 0) (ho := rfl) (hi := Nat.le_refl 3) (hcs := rfl) (c := ?_))
  refine QP.mk0 [] (fun F B => ∃ l y, SecIs regs bs.reverse (os.map (ren bs.length)) l ∧ osG 1 l.length (l.map Value.bool) y ∧ F = [(119, osV l.length y)] ∧ B = osC 4 y []) (h := fun w4 g4 => ?_) (k := ?_)
  · refine L.callP [] kB (hpre := fun w' hw => ⟨by rw [List.length_reverse]; exact (rq3.base g4 _ (fun _ h => h)).at hw, by rw [List.length_map]; exact (rp3.base g4 _ (fun _ h => h)).at hw⟩) (k := ?_)
    rintro v B ⟨l, y, hs, hG, rfl, rfl⟩
    rw [hdrop_nil]
    refine L.nil ?_
    exact D.endsP1 (osC 4 y []) (hR := ⟨l, y, hs, hG, rfl, rfl⟩)
  (refine QP.quiet (v := ?_) (by exact rfl) (by exact rfl) (fun w4 g4 => ?_) ?_; rotate_left); have opb4 := opb3.base g4 _ (fun _ h => h); have oqb4 := oqb3.base g4 _ (fun _ h => h); have orb4 := orb3.base g4 _ (fun _ h => h); repeat (first | refine L.nil ?_ | exact D.endsQ | refine L.loadF opb4 (i := 0) rfl (c := ?_) | refine L.loadF opb4 (i := 1) rfl (c := ?_) | refine L.loadF opb4 (i := 2) rfl (c := ?_) | refine L.loadOA opb4 (i := 0) (ho := rfl) (hi := Nat.le_refl 3) (hcs := rfl) (c := ?_) | refine L.loadF oqb4 (i := 0) rfl (c := ?_) | refine L.loadF oqb4 (i := 1) rfl (c := ?_) | refine L.loadF oqb4 (i := 2) rfl (c := ?_) | refine L.loadOA oqb4 (i := 0) (ho := rfl) (hi := Nat.le_refl 3) (hcs := rfl) (c := ?_) | refine L.loadF orb4 (i := 0) rfl (c := ?_) | refine L.loadF orb4 (i := 1) rfl (c := ?_) | refine L.loadF orb4 (i := 2) rfl (c := ?_) | refine L.loadOA orb4 (i := 0) (ho := rfl) (hi := Nat.le_refl 3) (hcs := rfl) (c := ?_))
  refine QP.mk0 [] (fun F B => ∃ l y, SecIs (regs + 1) bs (ahead regs n :: os) l ∧ osG 1 l.length (l.map Value.bool) y ∧ F = [(121, osV l.length y)] ∧ B = osC 4 y []) (h := fun w4 g4 => ?_) (k := ?_)
  · refine L.callP [] kC (hpre := fun w' hw => ⟨(r1.base g4 _ (fun _ h => h)).at hw, by rw [hoa]; exact (r2.base g4 _ (fun _ h => h)).at hw⟩) (k := ?_)
    rintro v B ⟨l, y, hs, hG, rfl, rfl⟩
    rw [hdrop_nil]
    refine L.nil ?_
    exact D.endsP1 (osC 4 y []) (hR := ⟨l, y, hs, hG, rfl, rfl⟩)
  refine QP.mk1 1 [] (fun F B => ∃ l y, SecIs regs bs os l ∧ osG 1 l.length (l.map Value.bool) y ∧ F = [(11, osV l.length y)] ∧ B = osC 4 y []) (h := ?_) (k := ?_)
  · rintro F B ⟨l, y, hs, hG, rfl, rfl⟩ w4 g4
    repeat (first | refine L.nil ?_ | refine L.assign (k := ?_))
    exact D.endsP1 (osC 4 y []) (hR := ⟨l, y, hs, hG, rfl, rfl⟩)
  refine QP.mk1 3 [] (fun F B => ∃ l y, SecIs regs bs.reverse (os.map (ren bs.length)) l ∧ osG 1 l.length (l.map Value.bool) y ∧ F = [(12, osV l.length y)] ∧ B = osC 4 y []) (h := ?_) (k := ?_)
  · rintro F B ⟨l, y, hs, hG, rfl, rfl⟩ w4 g4
    repeat (first | refine L.nil ?_ | refine L.assign (k := ?_))
    exact D.endsP1 (osC 4 y []) (hR := ⟨l, y, hs, hG, rfl, rfl⟩)
  refine QP.mk1 5 [] (fun F B => ∃ l y, SecIs (regs + 1) bs (ahead regs n :: os) l ∧ osG 1 l.length (l.map Value.bool) y ∧ F = [(13, osV l.length y)] ∧ B = osC 4 y []) (h := ?_) (k := ?_)
  · rintro F B ⟨l, y, hs, hG, rfl, rfl⟩ w4 g4
    repeat (first | refine L.nil ?_ | refine L.assign (k := ?_))
    exact D.endsP1 (osC 4 y []) (hR := ⟨l, y, hs, hG, rfl, rfl⟩)
  refine QP.fin3 [none, some [], none, some [], none, some [], some [1], some [3], some [5]] 6 7 8 (nds := [[], [], [], [], [], [], [], [], []]) (hM := List.Perm.refl _) (k := ?_)
  rintro F1 B1 F2 B2 F3 B3 ⟨la, ya, hsa, hGa, rfl, rfl⟩ ⟨lb, yb, hsb, hGb, rfl, rfl⟩ ⟨lc, yc, hsc, hGc, rfl, rfl⟩
  refine D.seqR (h := ?_)
  refine C.base _ (M' := []) (List.append_nil _).symm (fun w4 h4 => ?_)
  have ra := hGa.rdm (T := 4) h4 (fun x hx => by simp [hx])
  have rb' := hGb.rdm (T := 4) h4 (fun x hx => by simp [hx])
  have rc := hGc.rdm (T := 4) h4 (fun x hx => by simp [hx])
  have opb4 := opb3.at h4
  have oqb4 := oqb3.at h4
  have orb4 := orb3.at h4
  have rq4 := rq3.at h4
  have rp4 := rp3.at h4
  have p14 := p13.at h4
  have p24 := p23.at h4
  have r14 := r1.at h4
  have r24 := r2.at h4
  have heR := check_ren he
  have heA : (checkM (regs + 1) bs (ahead regs n :: os)).2 = 0 := check_ahead he (by omega) (by omega) hn.2
  unfold SecIs at hsa hsb hsc
  rw [if_pos he] at hsa
  rw [if_pos (by rw [heR]; exact he)] at hsb
  rw [if_pos heA] at hsc
  obtain ⟨ma, hla, hma, rfl⟩ := hsa
  obtain ⟨mb, hlb, hmb, rfl⟩ := hsb
  obtain ⟨mc, hlc, hmc, rfl⟩ := hsc
  have hlb2 := least_ren hok hlb
  have hlc2 := least_ahead hlc
  have e1 : mb = ma := least_eq hlb2 hla
  have e2 : mc = ma := least_eq hlc2 hla
  subst e1 e2
  obtain ⟨k, hk⟩ : ∃ k : Nat, regs = k := ⟨regs.toNat, by omega⟩
  have hrk : regs.toNat = k := by omega
  have hrk1 : (regs + 1).toNat = k + 1 := by omega
  simp only [secL_len, hrk, hrk1] at ra rb' rc ⊢
  have kS1 := scheck_S regs vb vo bs os hbl
  have kS2 := scheck_S regs vq vp bs.reverse (os.map (ren bs.length)) (by simpa using hbl)
  have kS3 := scheck_S (regs + 1) (osV bs.length y1) (osV (1 + os.length) y') bs (ahead regs n :: os) hbl
  repeat' (first | refine C.seq ?_ | refine C.region ?_ | refine L.loadF opb4 (i := 0) rfl (c := ?_) | refine L.loadF opb4 (i := 1) rfl (c := ?_) | refine L.loadF opb4 (i := 2) rfl (c := ?_) | refine L.loadOA opb4 (i := 0) (ho := rfl) (hi := Nat.le_refl 3) (hcs := rfl) (c := ?_) | refine L.loadF oqb4 (i := 0) rfl (c := ?_) | refine L.loadF oqb4 (i := 1) rfl (c := ?_) | refine L.loadF oqb4 (i := 2) rfl (c := ?_) | refine L.loadOA oqb4 (i := 0) (ho := rfl) (hi := Nat.le_refl 3) (hcs := rfl) (c := ?_) | refine L.loadF orb4 (i := 0) rfl (c := ?_) | refine L.loadF orb4 (i := 1) rfl (c := ?_) | refine L.loadF orb4 (i := 2) rfl (c := ?_) | refine L.loadOA orb4 (i := 0) (ho := rfl) (hi := Nat.le_refl 3) (hcs := rfl) (c := ?_))
  refine L.callP [] kS1 (hpre := fun w' hw => ⟨p14.at hw, p24.at hw⟩) (k := ?_)
  rintro v B ⟨x, hx, rfl, rfl⟩
  rw [hdrop_nil, List.nil_append]
  unfold shut
  repeat' (first | refine C.seq ?_ | refine C.region ?_ | refine L.nil ?_ | refine D.seq ?_ | refine L.move (k := ?_) | refine L.assign (k := ?_) | refine L.extract (c := ?_) | refine L.loadF opb4 (i := 0) rfl (c := ?_) | refine L.loadF opb4 (i := 1) rfl (c := ?_) | refine L.loadF opb4 (i := 2) rfl (c := ?_) | refine L.loadOA opb4 (i := 0) (ho := rfl) (hi := Nat.le_refl 3) (hcs := rfl) (c := ?_) | refine L.loadF oqb4 (i := 0) rfl (c := ?_) | refine L.loadF oqb4 (i := 1) rfl (c := ?_) | refine L.loadF oqb4 (i := 2) rfl (c := ?_) | refine L.loadOA oqb4 (i := 0) (ho := rfl) (hi := Nat.le_refl 3) (hcs := rfl) (c := ?_) | refine L.loadF orb4 (i := 0) rfl (c := ?_) | refine L.loadF orb4 (i := 1) rfl (c := ?_) | refine L.loadF orb4 (i := 2) rfl (c := ?_) | refine L.loadOA orb4 (i := 0) (ho := rfl) (hi := Nat.le_refl 3) (hcs := rfl) (c := ?_))
  refine L.callP [] kS2 (hpre := fun w' hw => ⟨by rw [List.length_reverse]; exact rq4.at hw, by rw [List.length_map]; exact rp4.at hw⟩) (k := ?_)
  rintro v B ⟨x2, hx2, rfl, rfl⟩
  rw [hdrop_nil, List.nil_append]
  unfold shut
  repeat' (first | refine C.seq ?_ | refine C.region ?_ | refine L.nil ?_ | refine D.seq ?_ | refine L.move (k := ?_) | refine L.assign (k := ?_) | refine L.extract (c := ?_) | refine L.loadF opb4 (i := 0) rfl (c := ?_) | refine L.loadF opb4 (i := 1) rfl (c := ?_) | refine L.loadF opb4 (i := 2) rfl (c := ?_) | refine L.loadOA opb4 (i := 0) (ho := rfl) (hi := Nat.le_refl 3) (hcs := rfl) (c := ?_) | refine L.loadF oqb4 (i := 0) rfl (c := ?_) | refine L.loadF oqb4 (i := 1) rfl (c := ?_) | refine L.loadF oqb4 (i := 2) rfl (c := ?_) | refine L.loadOA oqb4 (i := 0) (ho := rfl) (hi := Nat.le_refl 3) (hcs := rfl) (c := ?_) | refine L.loadF orb4 (i := 0) rfl (c := ?_) | refine L.loadF orb4 (i := 1) rfl (c := ?_) | refine L.loadF orb4 (i := 2) rfl (c := ?_) | refine L.loadOA orb4 (i := 0) (ho := rfl) (hi := Nat.le_refl 3) (hcs := rfl) (c := ?_))
  refine L.callP [] kS3 (hpre := fun w' hw => ⟨r14.at hw, by rw [hoa]; exact r24.at hw⟩) (k := ?_)
  rintro v B ⟨x3, hx3, rfl, rfl⟩
  rw [hdrop_nil, List.nil_append]
  unfold shut
  unfold CheckIs at hx hx2 hx3
  rw [if_pos he] at hx
  rw [if_pos (by rw [heR]; exact he)] at hx2
  rw [if_pos heA] at hx3
  obtain ⟨g1, hg1', _, hx⟩ := hx
  obtain ⟨g2, hg2', _, hx2⟩ := hx2
  obtain ⟨g3, hg3', _, hx3⟩ := hx3
  have f1 : g1 = mc := least_eq hg1' hla
  have f2 : g2 = mc := least_eq (least_ren hok hg2') hla
  have f3 : g3 = mc := least_eq (least_ahead hg3') hla
  subst f1 f2 f3
  have hbit : g3.testBit k = false := least_bit (by rw [← hk]; exact hok) hla
  rw [secRun_ren g3 os 0 hok, ← hx] at hx2
  rw [secRun_ahead bs g3 regs n os (by rw [hk, mhas_nat]; exact hbit), ← hx] at hx3
  subst hx2 hx3
  have hx1b : 0 ≤ x2.1 ∧ x2.1 ≤ os.length := by rw [hx]; have := secRun_le bs g3 os 0; simpa using this
  have kSame := sameB_S (osV k ya) (osV k yb) (secL g3 k) (secL g3 k) (by rw [secL_len]; omega)
  rw [show decide (secL g3 k = secL g3 k) = true from decide_eq_true rfl] at kSame
  have d1 : ar .add .i64 (k : Int) 1 = ((k + 1 : Nat) : Int) := wrap_nat (by omega)
  have d2 : cm .eql ((k + 1 : Nat) : Int) ((k + 1 : Nat) : Int) = true := cm_yes rfl
  have d3 : cm .eql x2.1 x2.1 = true := cm_yes rfl
  have d4 : cm .eql x2.2 x2.2 = true := cm_yes rfl
  have d5 : ar .add .i64 x2.1 1 = x2.1 + 1 := by
    show IntKind.i64.wrap _ = _
    exact wrap_nat (by omega)
  have d6 : cm .eql (x2.1 + 1) (x2.1 + 1) = true := cm_yes rfl
  have vk := enc_at (enc := Value.bool) (secL_at g3 (Nat.lt_succ_self k))
  rw [hbit] at vk
  have oc := rc.2 (by omega)
  repeat' (first | refine C.seq ?_ | refine C.region ?_ | refine L.nil ?_ | refine D.seq ?_ | refine L.move (k := ?_) | refine L.assign (k := ?_) | refine L.cm (c := ?_) | refine L.ar (c := ?_) | refine L.extract (c := ?_) | refine L.pickT (k := ?_) | refine L.want (k := ?_) | refine L.callQ kSame (hpre := fun w' hw => ⟨by rw [secL_len]; exact ra.at hw, by rw [secL_len]; exact rb'.at hw⟩) (k := ?_) | refine L.lenR ra.1 (c := ?_) | refine L.lenR rc.1 (c := ?_) | refine L.sliceR rc.1 (lo := 0) (hi := k) (by omega) (by omega) (hy := .inl ⟨rfl, rfl⟩) (hz := .inr ⟨_, _, rfl, rfl⟩) (c := fun v' hv' hb' => ?_))
  have rv : ∀ w', At w4 (keys []) ([] ++ []) w' → Rd w' [] v' k ((secL g3 k).map Value.bool) := fun w' hw => (Rd.sub (sz := 1) rc (by omega) hv' hb' (fun i u hu => by
    rw [Nat.zero_mul, Nat.zero_add, secL_succ, List.map_append, List.getElem?_append_left (List.getElem?_eq_some_iff.1 hu).1]; exact hu)).at hw
  have kSame2 := sameB_S v' (osV k ya) (secL g3 k) (secL g3 k) (by rw [secL_len]; omega)
  rw [show decide (secL g3 k = secL g3 k) = true from decide_eq_true rfl] at kSame2
  repeat' (first | refine L.nil ?_ | refine D.seq ?_ | refine L.move (k := ?_) | refine L.assign (k := ?_) | refine L.cm (c := ?_) | refine L.ar (c := ?_) | refine L.pickT (k := ?_) | refine L.want (k := ?_) | refine L.not (c := ?_) | refine C.ret ?_ | refine L.callQ kSame2 (hpre := fun w' hw => ⟨by rw [secL_len]; exact rv _ hw, by rw [secL_len]; exact ra.at hw⟩) (k := ?_) | refine L.lenR ra.1 (c := ?_) | refine L.indexR rc.1 (k := k) (by omega) (c := ?_) | refine L.loadF oc vk (c := ?_))
  --@
  (refine D.ret (vs := [_]) (RV.tmp rfl RV.nil) ?_; intro w' hw; exact Post.mk (is := []) (h1.back (At.back h2.nilr (At.back h3.nilr (At.back h4.nilr hw)))) List.nodup_nil rfl ⟨rfl, rfl⟩)
end Go.Proofs.Ytkjlgapkcdcmgaa
