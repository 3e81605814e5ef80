/- LimbParts: the walk. -/
import Derived.Test.YtkjlgapkcdcmgaaLnA
import Derived.Test.YtkjlgapkcdcmgaaFin
set_option linter.unusedVariables false
set_option linter.unusedSimpArgs false
namespace Go.Proofs.Ytkjlgapkcdcmgaa
open Go Go.RowKit SL
attribute [local irreducible] SL.L SL.C SL.D SL.N SL.H SL.QL SL.QW SL.QP

set_option maxRecDepth 100000 in
set_option maxHeartbeats 16000000 in
theorem partsLaw_S (regs : Int) (vb vo v : Value) (bs : List Bf) (os : List Lop) (rs : Rws) (hbl : bs.length ≤ maxLen) (hol : os.length ≤ maxLen) (hrl : rs.length ≤ maxLen) (hI : ∀ o ∈ os, W64 o.imm) (hrs : ∀ r ∈ rs, RngR r.2) :
    Ctr Try.prog 10 [progV regs vb vo, v] [] (fun w => (Rd w [] vb bs.length (bs.flatMap encB) ∧ Rd w [] vo os.length (os.flatMap encO)) ∧ RdR w [] v rs) (is (.bool true) []) := by
  refine Ctr.enter Try.func10 Try.ntmps10 rfl rfl (fun w hr => ?_)
  have s1 := hr.1.1.1
  have s2 := hr.1.2.1
  have sv := hr.2.1.1
  have kL := light_S regs vb vo bs os.length 30 s2 hbl hol
  have kR := lightRows_S v rs hrl
  have kS := lsteps_S regs vb vo bs os hbl
  obtain ⟨n, hn⟩ : ∃ n, stepsR regs bs os = n := ⟨_, rfl⟩
  rw [hn] at kS
  unfold progV
  repeat' (first | refine C.seq ?_ | refine C.region ?_ | refine L.nil ?_ | refine D.seq ?_ | refine L.assign (k := ?_) | refine L.loadA 0 (c := ?_) | refine L.box (c := fun _ => ?_) | refine C.no (h1 := ?_) | refine L.not (c := ?_) | refine C.skip ?_ | refine L.callQ (lives12_S) (k := ?_))
  rename_i pb
  refine L.callP [] (check_S regs vb vo bs os hbl) (hpre := fun w hw => ⟨hr.1.1.at hw, hr.1.2.at hw⟩) (k := ?_)
  rintro u0 B0 ⟨rfl, rfl⟩
  rw [hdrop_nil]
  unfold shut
  rw [List.nil_append]
  cases hL : lightM regs bs os.length 30 with
  | false =>
    rw [hL] at kL
    repeat' (first | refine C.seq ?_ | refine C.region ?_ | refine L.nil ?_ | refine D.seq ?_ | refine L.move (k := ?_) | refine L.assign (k := ?_) | refine L.loadA 0 (c := ?_) | refine L.extract (c := ?_) | refine C.yes (h1 := ?_) | refine L.pickT (k := ?_) | refine L.pass (k := ?_) | refine L.not (c := ?_) | refine C.ret ?_ | refine D.thenRet ?_ | refine L.callQ kL (hpre := fun w hw => hr.1.1.at hw) (k := ?_))
    (refine D.ret (vs := [_]) (RV.tmp rfl RV.nil) ?_; intro w' hw; exact Post.mk (is := []) hw List.nodup_nil rfl ⟨rfl, rfl⟩)
  | true =>
  rw [hL] at kL
  cases hA : lightRowsM rs with
  | false =>
    rw [hA] at kR
    repeat' (first | refine C.seq ?_ | refine C.region ?_ | refine L.nil ?_ | refine D.seq ?_ | refine L.move (k := ?_) | refine L.assign (k := ?_) | refine L.loadA 0 (c := ?_) | refine L.extract (c := ?_) | refine C.yes (h1 := ?_) | refine L.pickT (k := ?_) | refine L.pickF (k := ?_) | refine L.want (k := ?_) | refine L.pass (k := ?_) | refine L.not (c := ?_) | refine C.ret ?_ | refine D.thenRet ?_ | refine L.callQ kL (hpre := fun w hw => hr.1.1.at hw) (k := ?_) | refine L.callQ kR (hpre := fun w hw => hr.2.at hw) (k := ?_))
    (refine D.ret (vs := [_]) (RV.tmp rfl RV.nil) ?_; intro w' hw; exact Post.mk (is := []) hw List.nodup_nil rfl ⟨rfl, rfl⟩)
  | true =>
  rw [hA] at kR
  by_cases he : (checkM regs bs os).2 ≠ 0
  · have c1 : cm .neq (checkM regs bs os).2 0 = true := cm_ne he
    repeat' (first | refine C.seq ?_ | refine C.region ?_ | refine L.nil ?_ | refine D.seq ?_ | refine L.move (k := ?_) | refine L.assign (k := ?_) | refine L.cm (c := ?_) | refine L.loadA 0 (c := ?_) | refine L.extract (c := ?_) | refine C.yes (h1 := ?_) | refine L.pickT (k := ?_) | refine L.pickF (k := ?_) | refine L.want (k := ?_) | refine L.pass (k := ?_) | refine L.not (c := ?_) | refine C.ret ?_ | refine D.thenRet ?_ | refine L.callQ kL (hpre := fun w hw => hr.1.1.at hw) (k := ?_) | refine L.callQ kR (hpre := fun w hw => hr.2.at hw) (k := ?_))
    (refine D.ret (vs := [_]) (RV.tmp rfl RV.nil) ?_; intro w' hw; exact Post.mk (is := []) hw List.nodup_nil rfl ⟨rfl, rfl⟩)
  replace he : (checkM regs bs os).2 = 0 := by omega
  have c1 : cm .neq (checkM regs bs os).2 0 = false := cm_ne' he
  have hsn : stepsM os = n := by rw [← hn]; unfold stepsR; rw [if_pos he]
  by_cases hst : 2000 < n
  · have c2 : cm .gtr n 2000 = true := cm_gt hst
    repeat' (first | refine C.seq ?_ | refine C.region ?_ | refine L.nil ?_ | refine D.seq ?_ | refine L.move (k := ?_) | refine L.assign (k := ?_) | refine L.cm (c := ?_) | refine L.loadA 0 (c := ?_) | refine L.extract (c := ?_) | refine C.yes (h1 := ?_) | refine L.pickF (k := ?_) | refine L.want (k := ?_) | refine L.not (c := ?_) | refine C.ret ?_ | refine D.thenRet ?_ | refine L.callQ kL (hpre := fun w hw => hr.1.1.at hw) (k := ?_) | refine L.callQ kR (hpre := fun w hw => hr.2.at hw) (k := ?_) | refine L.callQ kS (hpre := fun w hw => ⟨hr.1.1.at hw, hr.1.2.at hw⟩) (k := ?_))
    (refine D.ret (vs := [_]) (RV.tmp rfl RV.nil) ?_; intro w' hw; exact Post.mk (is := []) hw List.nodup_nil rfl ⟨rfl, rfl⟩)
  have c2 : cm .gtr n 2000 = false := cm_gt' (by omega)
  obtain ⟨h40, h600⟩ := lightRows_ok hA
  obtain ⟨hl1, hl2, hl3, _⟩ := light_ok hL
  repeat' (first | refine C.seq ?_ | refine C.region ?_ | refine L.nil ?_ | refine D.seq ?_ | refine L.move (k := ?_) | refine L.assign (k := ?_) | refine L.cm (c := ?_) | refine L.loadA 0 (c := ?_) | refine L.extract (c := ?_) | refine C.no (h1 := ?_) | refine L.pickF (k := ?_) | refine L.want (k := ?_) | refine L.not (c := ?_) | refine C.block ?_ | refine C.skip ?_ | refine L.callQ kL (hpre := fun w hw => hr.1.1.at hw) (k := ?_) | refine L.callQ kR (hpre := fun w hw => hr.2.at hw) (k := ?_) | refine L.callQ kS (hpre := fun w hw => ⟨hr.1.1.at hw, hr.1.2.at hw⟩) (k := ?_))
  refine C.base [(pb, ob [.int .i64 regs, vb, vo] 25)] (M' := []) rfl (fun w1 h1 => ?_)
  have opb := Old.own (h1.holds (pb, ob [.int .i64 regs, vb, vo] 25) (by simp)) (A := []) (by simp) _ List.take_length
  have q1 := hr.1.1.at h1
  have q2 := hr.1.2.at h1
  have qv := hr.2.at h1
  repeat' (first | fail)
  refine C.loop (α := Nat) (fun i => i ≤ bs.length ∧ ∀ (j : Nat) (b : Bf), j < i → bs[j]? = some b → b.kind ≠ 3) (fun i => [(1, v), (2, .pointer (some ⟨pb, 0, none⟩)), (7, .int .i64 (i : Int))]) (fun _ => []) (fun i => bs.length - i) 0 (fun a w hs => hs.lessE rfl (lk_cons rfl (lk_cons rfl (lk_cons rfl (fun _ _ h => lk_nil h))))) ⟨Nat.zero_le _, fun j b h => by omega⟩ ?_
  rintro i ⟨hi, hk⟩
  rcases Nat.lt_or_ge i bs.length with hlt | hge
  · have k1 : cm .lss (i : Int) bs.length = true := cm_lo (by omega)
    have k2 : ar .add .i64 (i : Int) 1 = ((i + 1 : Nat) : Int) := wrap_nat (by omega)
    obtain ⟨b, hb⟩ : ∃ b, bs[i]? = some b := ⟨_, List.getElem?_eq_getElem hlt⟩
    have oB := q1.2 (by omega)
    obtain ⟨b0, b1, _⟩ := b_at hb
    cases hk1 : cm .eql b.kind 3 with
    | true =>
      repeat' (first | refine C.seq ?_ | refine C.region ?_ | refine L.nil ?_ | refine D.seq ?_ | refine L.move (k := ?_) | refine L.assign (k := ?_) | refine L.cm (c := ?_) | refine L.fieldAddr (c := ?_) | refine C.yes (h1 := ?_) | refine C.block ?_ | refine C.ret ?_ | refine D.thenRet ?_ | refine D.blkRet ?_ | refine C.skip ?_ | refine L.loadF opb (i := 1) rfl (c := ?_) | refine L.lenR s1 (c := ?_) | refine L.indexR s1 hlt (c := ?_) | refine L.loadF oB b1 (c := ?_))
      (refine D.ret (vs := [_]) (RV.tmp rfl RV.nil) ?_; intro w' hw; exact Post.mkD 0 (At.back (at_nilr h1) hw) rfl ⟨rfl, rfl⟩)
    | false =>
      repeat' (first | refine C.seq ?_ | refine C.region ?_ | refine L.nil ?_ | refine D.seq ?_ | refine L.move (k := ?_) | refine L.assign (k := ?_) | refine L.cm (c := ?_) | refine L.ar (c := ?_) | refine L.fieldAddr (c := ?_) | refine C.yes (h1 := ?_) | refine C.no (h1 := ?_) | refine C.block ?_ | refine D.blkNormal ?_ | refine C.skip ?_ | refine L.loadF opb (i := 1) rfl (c := ?_) | refine L.lenR s1 (c := ?_) | refine L.indexR s1 hlt (c := ?_) | refine L.loadF oB b1 (c := ?_))
      exact D.then_ fun a1 w1 hs => ⟨i + 1, ⟨by omega, fun j b' hj hb' => by
        rcases Nat.lt_or_ge j i with h | h
        · exact hk j b' h hb'
        · have : j = i := by omega
          subst this
          rw [hb] at hb'; cases hb'
          intro e; rw [cm_yes e] at hk1; cases hk1⟩, by omega, hs.lessE rfl (lk_cons rfl (lk_cons rfl (lk_cons rfl (fun _ _ h => lk_nil h))))⟩
  have k1 : cm .lss (i : Int) bs.length = false := cm_lo' (by omega)
  have hk3 : ∀ b ∈ bs, b.kind ≠ 3 := fun b hb => by
    obtain ⟨j, hj⟩ := List.mem_iff_getElem?.1 hb
    exact hk j b (by have := (List.getElem?_eq_some_iff.1 hj).1; omega) hj
  repeat' (first | refine C.seq ?_ | refine C.region ?_ | refine L.nil ?_ | refine D.seq ?_ | refine L.move (k := ?_) | refine L.assign (k := ?_) | refine L.cm (c := ?_) | refine L.fieldAddr (c := ?_) | refine C.no (h1 := ?_) | refine C.block ?_ | refine C.exit ?_ | refine D.thenExit ?_ | refine D.blkExit ?_ | refine D.seqR (h := ?_) | refine L.loadF opb (i := 1) rfl (c := ?_) | refine L.lenR s1 (c := ?_))
  refine C.loop (α := Nat) (fun i => i ≤ os.length) (fun i => [(1, v), (2, .pointer (some ⟨pb, 0, none⟩)), (8, .int .i64 (i : Int))]) (fun _ => []) (fun i => os.length - i) 0 (fun a w hs => hs.lessE rfl (lk_cons rfl (lk_cons rfl (lk_cons rfl (fun _ _ h => lk_nil h))))) (Nat.zero_le _) ?_
  rintro k hko
  rcases Nat.lt_or_ge k os.length with hlt | hge2
  · have k1 : cm .lss (k : Int) os.length = true := cm_lo (by omega)
    have k2 : ar .add .i64 (k : Int) 1 = ((k + 1 : Nat) : Int) := wrap_nat (by omega)
    obtain ⟨o, ho⟩ : ∃ o, os[k]? = some o := ⟨_, List.getElem?_eq_getElem hlt⟩
    have oO := q2.2 (by omega)
    have o0 := flat_get encO_len os k o ho 0 (by decide)
    cases hk1 : cm .eql o.k 16 with
    | true =>
      cases hk2 : cm .gtr (k : Int) 0 with
      | true =>
        repeat' (first | refine C.seq ?_ | refine C.region ?_ | refine L.nil ?_ | refine D.seq ?_ | refine L.move (k := ?_) | refine L.assign (k := ?_) | refine L.cm (c := ?_) | refine L.fieldAddr (c := ?_) | refine C.yes (h1 := ?_) | refine L.pickT (k := ?_) | refine L.want (k := ?_) | refine C.block ?_ | refine C.ret ?_ | refine D.thenRet ?_ | refine D.blkRet ?_ | refine C.skip ?_ | refine L.loadF opb (i := 2) rfl (c := ?_) | refine L.lenR s2 (c := ?_) | refine L.indexR s2 hlt (c := ?_) | refine L.loadF oO o0 (c := ?_))
        (refine D.ret (vs := [_]) (RV.tmp rfl RV.nil) ?_; intro w' hw; exact Post.mkD 0 (At.back (at_nilr h1) hw) rfl ⟨rfl, rfl⟩)
      | false =>
        repeat' (first | refine C.seq ?_ | refine C.region ?_ | refine L.nil ?_ | refine D.seq ?_ | refine L.move (k := ?_) | refine L.assign (k := ?_) | refine L.cm (c := ?_) | refine L.ar (c := ?_) | refine L.fieldAddr (c := ?_) | refine C.yes (h1 := ?_) | refine C.no (h1 := ?_) | refine L.pickT (k := ?_) | refine L.want (k := ?_) | refine C.block ?_ | refine D.blkNormal ?_ | refine C.skip ?_ | refine L.loadF opb (i := 2) rfl (c := ?_) | refine L.lenR s2 (c := ?_) | refine L.indexR s2 hlt (c := ?_) | refine L.loadF oO o0 (c := ?_))
        exact D.then_ fun a1 w1 hs => ⟨k + 1, by omega, by omega, hs.lessE rfl (lk_cons rfl (lk_cons rfl (lk_cons rfl (fun _ _ h => lk_nil h))))⟩
    | false =>
      repeat' (first | refine C.seq ?_ | refine C.region ?_ | refine L.nil ?_ | refine D.seq ?_ | refine L.move (k := ?_) | refine L.assign (k := ?_) | refine L.cm (c := ?_) | refine L.ar (c := ?_) | refine L.fieldAddr (c := ?_) | refine C.yes (h1 := ?_) | refine C.no (h1 := ?_) | refine L.pickF (k := ?_) | refine L.pass (k := ?_) | refine C.block ?_ | refine D.blkNormal ?_ | refine C.skip ?_ | refine L.loadF opb (i := 2) rfl (c := ?_) | refine L.lenR s2 (c := ?_) | refine L.indexR s2 hlt (c := ?_) | refine L.loadF oO o0 (c := ?_))
      exact D.then_ fun a1 w1 hs => ⟨k + 1, by omega, by omega, hs.lessE rfl (lk_cons rfl (lk_cons rfl (lk_cons rfl (fun _ _ h => lk_nil h))))⟩
  have k1' : cm .lss (k : Int) os.length = false := cm_lo' (by omega)
  have kOwn := ownProg_S regs vb vo bs.length os.length (bs.flatMap encB) (os.flatMap encO) (flat_len encB_len bs) (flat_len encO_len os) (ones_flat ones_B bs) (ones_flat ones_O os) (by omega) (by omega) s1 s2
  repeat' (first | refine C.seq ?_ | refine C.region ?_ | refine L.nil ?_ | refine D.seq ?_ | refine L.move (k := ?_) | refine L.cm (c := ?_) | refine L.fieldAddr (c := ?_) | refine C.no (h1 := ?_) | refine C.exit ?_ | refine D.thenExit ?_ | refine D.blkExit ?_ | refine L.loadF opb (i := 2) rfl (c := ?_) | refine L.lenR s2 (c := ?_) | refine L.loadOA opb (i := 0) (ho := rfl) (hi := Nat.le_refl 3) (hcs := rfl) (c := ?_))
  refine L.callP [] kOwn (hpre := fun w hw => ⟨q1.at hw, q2.at hw⟩) (k := ?_)
  rintro u B ⟨yq, yp, hq0, hp0, rfl, rfl⟩
  rw [hdrop_nil, osC_app 33 yq (osC 39 yp [])]
  unfold shut progV
  repeat' (first | refine L.alloc (c := fun _ => ?_))
  rename_i qb
  refine L.storeV 0 (vs := [.int .i64 regs, osV bs.length yq, osV os.length yp]) (ho := by simp only [List.all_cons, List.all_nil, oneB_os, Bool.and_true]; rfl) (hM := rfl) (c := ?_)
  refine L.nil ?_
  refine D.seqR (h := ?_)
  refine C.perm (M' := [(qb, ob [.int .i64 regs, osV bs.length yq, osV os.length yp] 25)] ++ osC 39 yp (osC 33 yq [])) (by
    rw [osC_app 39 yp (osC 33 yq [])]
    exact perm_by (fun k => match k with | 0 => [(qb, ob [.int .i64 regs, osV bs.length yq, osV os.length yp] 25)] | 1 => osC 33 yq [] | _ => osC 39 yp []) [0, 2, 1] [0, 1, 2] (by simp) (by simp [hset])) ?_
  have hfm : os.flatMap encO ++ os.flatMap encO = (os ++ os).flatMap encO := by rw [List.flatMap_append]
  repeat' (first | refine C.seq ?_ | refine C.region ?_ | refine L.fieldAddr (c := ?_) | refine L.load1 0 (c := ?_) | refine L.loadF opb (i := 2) rfl (c := ?_))
  refine L.appendU [_] (y := yp) (L2 := osC 33 yq []) (cs := os.flatMap encO) (m := os.length) (k := os.length) (news := os.flatMap encO) hp0 rfl (fun w hw => q2.at hw) (flat_len encO_len os) (ones_flat ones_O os) (by unfold maxLen; omega) (by omega) (c := fun y' hG' _ => ?_)
  rw [hfm, show os.length + os.length = (os ++ os).length by simp] at hG'
  rw [show os.length + os.length = (os ++ os).length by simp]
  simp only [List.cons_append, List.nil_append]
  repeat' (first | refine L.storeV 0 (hc := osV_cells _ _) (ho := osV_one _ _) (hl := rfl) (M' := (qb, ob [.int .i64 regs, osV bs.length yq, osV (os ++ os).length y'] 25) :: osC 39 y' (osC 33 yq [])) (hM := rfl) (c := ?_) | refine C.seq ?_ | refine C.region ?_ | refine L.nil ?_ | refine L.fieldAddr (c := ?_) | refine L.loadA 0 (c := ?_) | refine D.seqR (h := ?_))
  refine L.base _ (M' := []) (List.append_nil _).symm (fun w2 h2 => ?_)
  have oqb := Old.own (h2.holds (qb, ob [.int .i64 regs, osV bs.length yq, osV (os ++ os).length y'] 25) (by simp)) (A := []) (by simp) _ List.take_length
  have hfr : osC 39 y' (osC 33 yq []) = osC 39 y' [] ++ osC 33 yq [] := osC_app _ _ _
  have t1 := hq0.rdm (T := 33) h2 (fun x hx => by rw [hfr]; simp [hx])
  have t2 := hG'.rdm (T := 39) h2 (fun x hx => by rw [hfr]; simp [hx])
  have opb2 := opb.at h2
  have q12 := q1.at h2
  have q22 := q2.at h2
  have qv2 := qv.at h2
  have h12 := At.back (at_nilr h1) h2
  have kQ := check_S regs (osV bs.length yq) (osV (os ++ os).length y') bs (os ++ os) hbl
  refine L.callP [] kQ (hpre := fun w hw => ⟨t1.at hw, t2.at hw⟩) (k := ?_)
  rintro u0 B0 ⟨rfl, rfl⟩
  rw [hdrop_nil]
  unfold shut
  rw [List.nil_append]
  by_cases he2 : (checkM regs bs (os ++ os)).2 ≠ 0
  · have h9 : (checkM regs bs (os ++ os)).2 = 9 := (twice_check he (by omega)).resolve_left he2
    have c3 : cm .neq (checkM regs bs (os ++ os)).2 0 = true := cm_ne he2
    have c4 : cm .eql (checkM regs bs (os ++ os)).2 9 = true := cm_yes h9
    repeat' (first | refine C.seq ?_ | refine C.region ?_ | refine L.nil ?_ | refine D.seq ?_ | refine L.move (k := ?_) | refine L.assign (k := ?_) | refine L.cm (c := ?_) | refine L.extract (c := ?_) | refine C.yes (h1 := ?_) | refine C.ret ?_ | refine D.thenRet ?_ | refine D.seqR (h := ?_))
    (refine D.ret (vs := [_]) (RV.tmp rfl RV.nil) ?_; intro w' hw; exact Post.mkD 0 (At.back (at_nilr h12) hw) rfl ⟨rfl, rfl⟩)
  replace he2 : (checkM regs bs (os ++ os)).2 = 0 := by omega
  have c3 : cm .neq (checkM regs bs (os ++ os)).2 0 = false := cm_ne' he2
  obtain ⟨g1, g2⟩ := parts_law (rs := rs) he he2 hk3 (by omega) hrs
  repeat' (first | refine C.seq ?_ | refine C.region ?_ | refine L.nil ?_ | refine D.seq ?_ | refine L.move (k := ?_) | refine L.assign (k := ?_) | refine L.cm (c := ?_) | refine L.extract (c := ?_) | refine C.no (h1 := ?_) | refine C.skip ?_ | refine D.seqR (h := ?_) | refine L.loadOA opb2 (i := 0) (ho := rfl) (hi := Nat.le_refl 3) (hcs := rfl) (c := ?_))
  refine L.callP [] (lrun_S regs vb vo v bs os rs hbl hI hrs) (hpre := fun w hw => ⟨⟨q12.at hw, q22.at hw⟩, qv2.at hw⟩) (k := ?_)
  intro u1 B1 hu1
  rw [hdrop_nil]
  obtain ⟨xv, lv, rx, rfl, hmx, hgx, hrx⟩ := run_read hu1
  unfold shut
  refine L.base _ (M' := []) (List.append_nil _).symm (fun w3 h3 => ?_)
  obtain ⟨rX, rL⟩ := hrx _ _ _ _ h3 (fun b hb => by simp [hb])
  have opb3 := opb2.at h3
  have oqb3 := oqb.at h3
  have q13 := q12.at h3
  have q23 := q22.at h3
  have qv3 := qv2.at h3
  have t13 := t1.at h3
  have t23 := t2.at h3
  have h13 := At.back (at_nilr h12) h3
  obtain ⟨sx, so1⟩ := out_small (regs := regs) (bs := bs) (os := os) (rs := rs)
  obtain ⟨X1, hX1⟩ : ∃ x, outR regs bs os rs = x := ⟨_, rfl⟩
  rw [hX1] at g1 g2 hmx rL sx so1 ⊢
  repeat' (first | refine C.seq ?_ | refine C.region ?_ | refine L.nil ?_ | refine L.move (k := ?_) | refine L.assign (k := ?_) | refine L.extract (c := ?_) | refine D.seqR (h := ?_) | refine L.loadOA oqb3 (i := 0) (ho := rfl) (hi := Nat.le_refl 3) (hcs := rfl) (c := ?_))
  refine L.callP [] (lrun_S regs (osV bs.length yq) (osV (os ++ os).length y') v bs (os ++ os) rs hbl (fun o ho => by rcases List.mem_append.1 ho with h | h <;> exact hI o h) hrs) (hpre := fun w hw => ⟨⟨t13.at hw, t23.at hw⟩, qv3.at hw⟩) (k := ?_)
  intro u2 B2 hu2
  rw [hdrop_nil]
  obtain ⟨yv, mv, ry, rfl, hmy, hgy, hry⟩ := run_read hu2
  unfold shut
  refine L.base _ (M' := []) (List.append_nil _).symm (fun w4 h4 => ?_)
  obtain ⟨rY, rM⟩ := hry _ _ _ _ h4 (fun b hb => by simp [hb])
  have opb4 := opb3.at h4
  have q14 := q13.at h4
  have q24 := q23.at h4
  have rX4 := rX.at h4
  have rL4 := rL.at h4
  have h14 := At.back (at_nilr h13) h4
  obtain ⟨sy, so2⟩ := out_small (regs := regs) (bs := bs) (os := os ++ os) (rs := rs)
  obtain ⟨X2, hX2⟩ : ∃ x, outR regs bs (os ++ os) rs = x := ⟨_, rfl⟩
  rw [hX2] at g1 g2 hmy rM sy so2 ⊢
  clear hrx hry hu1 hu2
  by_cases hf : X1.1 ≠ 0
  · have c5 : cm .neq X1.1 0 = true := cm_ne hf
    obtain ⟨k1, k2⟩ := g1 hf
    have c6 : cm .eql X2.1 X1.1 = true := cm_yes k1
    have kE := sameE_S lv mv X1.2.2 X2.2.2 (by omega)
    rw [decide_eq_true k2.symm] at kE
    repeat' (first | refine C.seq ?_ | refine C.region ?_ | refine L.nil ?_ | refine D.seq ?_ | refine L.move (k := ?_) | refine L.assign (k := ?_) | refine L.cm (c := ?_) | refine L.extract (c := ?_) | refine C.yes (h1 := ?_) | refine L.pickT (k := ?_) | refine L.want (k := ?_) | refine C.ret ?_ | refine D.thenRet ?_ | refine D.seqR (h := ?_) | refine L.callQ kE (hpre := fun w1 hw => ⟨rL4.at hw, rM.at hw⟩) (k := ?_))
    (refine D.ret (vs := [_]) (RV.tmp rfl RV.nil) ?_; intro w' hw; exact Post.mkD 0 (At.back (at_nilr h14) hw) rfl ⟨rfl, rfl⟩)
  replace hf : X1.1 = 0 := by omega
  have c5 : cm .neq X1.1 0 = false := cm_ne' hf
  obtain ⟨k1, k2, k3⟩ := g2 hf rx hmx
  repeat' (first | refine C.seq ?_ | refine C.region ?_ | refine L.nil ?_ | refine D.seq ?_ | refine L.move (k := ?_) | refine L.assign (k := ?_) | refine L.cm (c := ?_) | refine L.extract (c := ?_) | refine C.no (h1 := ?_) | refine C.skip ?_ | refine D.seqR (h := ?_) | refine L.loadOA opb4 (i := 0) (ho := rfl) (hi := Nat.le_refl 3) (hcs := rfl) (c := ?_))
  refine L.callP [] (lrun_S regs vb vo xv bs os rx hbl hI hgx) (hpre := fun w hw => ⟨⟨q14.at hw, q24.at hw⟩, rX4.at hw⟩) (k := ?_)
  intro u3 B3 hu3
  rw [hdrop_nil]
  obtain ⟨zv, nv, rz, rfl, hmz, hgz, hrz⟩ := run_read hu3
  unfold shut
  refine L.base _ (M' := []) (List.append_nil _).symm (fun w5 h5 => ?_)
  obtain ⟨rZ, rN⟩ := hrz _ _ _ _ h5 (fun b hb => by simp [hb])
  have rL5 := rL4.at h5
  have rM5 := rM.at h5
  have rY5 := rY.at h5
  have h15 := At.back (at_nilr h14) h5
  obtain ⟨sz, so3⟩ := out_small (regs := regs) (bs := bs) (os := os) (rs := rx)
  obtain ⟨X3, hX3⟩ : ∃ x, outR regs bs os rx = x := ⟨_, rfl⟩
  rw [hX3] at k1 k2 k3 hmz rN sz so3 ⊢
  clear hrz hu3
  have c6 : cm .eql X2.1 X3.1 = true := cm_yes k1
  have hyl : ry.length ≤ 32 := by have := congrArg List.length hmy; rw [List.length_map] at this; omega
  have kR2 := rowsEq_S yv zv ry rz (by omega) (fun r hr => by
    have : r.2 ∈ ry.map (·.2) := List.mem_map.2 ⟨r, hr, rfl⟩
    rw [hmy] at this
    have := so2.2.2 _ this
    omega)
  rw [decide_eq_true (show ry.map (·.2) = rz.map (·.2) by rw [hmy, hmz, k2])] at kR2
  have c7 : ar .add .i64 (X1.2.2.length : Int) X3.2.2.length = ((X2.2.2.length : Nat) : Int) := by
    rw [k3]
    show IntKind.i64.wrap _ = _
    rw [show (X1.2.2.length : Int) + X3.2.2.length = ((X1.2.2.length + X3.2.2.length : Nat) : Int) by omega]
    exact wrap_nat (by omega)
  have c8 : cm .eql (X2.2.2.length : Int) X2.2.2.length = true := cm_yes rfl
  repeat' (first | refine C.seq ?_ | refine C.region ?_ | refine L.nil ?_ | refine D.seq ?_ | refine L.move (k := ?_) | refine L.assign (k := ?_) | refine L.cm (c := ?_) | refine L.ar (c := ?_) | refine L.extract (c := ?_) | refine L.pickT (k := ?_) | refine L.want (k := ?_) | refine C.ret ?_ | refine D.seqR (h := ?_) | refine L.callQ kR2 (hpre := fun w1 hw => ⟨rY5.at hw, rZ.at hw⟩) (k := ?_) | refine L.lenR rL5.1 (c := ?_) | refine L.lenR rM5.1 (c := ?_) | refine L.lenR rN.1 (c := ?_))
  (refine D.ret (vs := [_]) (RV.tmp rfl RV.nil) ?_; intro w' hw; exact Post.mkD 0 (At.back (at_nilr h15) hw) rfl ⟨rfl, rfl⟩)
end Go.Proofs.Ytkjlgapkcdcmgaa
namespace Go.Proofs.Ytkjlgapkcdcmgaa
open Go Go.RowKit SL
theorem parts_walk (v : Value) (regs : Int) (vb vo : Value) (bs : List Bf) (os : List Lop) (u : Value) (rs : Rws) (w : World) (hp : Prog w v regs vb vo bs os) (hq : RowsA w u rs) :
    Calls Try.prog 10 #[v, u] w fun e w' => e = .returned (.bool true) ∧ Below w.heap.size w w' := by
  obtain ⟨rfl, _, _, ook, hbl, hol, rb, ro⟩ := hp
  exact (partsLaw_S regs vb vo u bs os rs hbl hol hq.len (fun o ho => (ook o ho).imm.w) (fun r hr x hx => ((hq.ok r hr).1 x hx).w)).true w ⟨⟨rb, ro⟩, hq.rd⟩
end Go.Proofs.Ytkjlgapkcdcmgaa
