/- Several texts, one behind the other. -/
import Derived.Test.YtkjlgapkcdcmgaaLm11
import Derived.Test.YtkjlgapkcdcmgaaFin
set_option linter.unusedVariables false
set_option linter.unusedSimpArgs false
namespace Go.Proofs.Ytkjlgapkcdcmgaa
open Go Go.RowKit SL
attribute [local irreducible] SL.L SL.C SL.D SL.N SL.H SL.QL SL.QW SL.QP

set_option maxRecDepth 100000 in
set_option maxHeartbeats 16000000 in
theorem stepsLaw_F (regs : Int) (vb vo v : Value) (bs : List Bf) (os : List Lop) (rs : Rws) (hbl : bs.length ≤ maxLen) (hol : os.length ≤ maxLen) (hrl : rs.length ≤ maxLen) (hI : ∀ o ∈ os, W64 o.imm) (hrs : ∀ r ∈ rs, RngR r.2) (hend : ((treeOf os).exec 0 (initL bs rs)).2 = false) :
    Ctr Try.prog 7 [progV regs vb vo, v] [] (fun w => (Rd w [] vb bs.length (bs.flatMap encB) ∧ Rd w [] vo os.length (os.flatMap encO)) ∧ RdR w [] v rs) (is (.bool true) []) := by
  refine Ctr.enter Try.func7 Try.ntmps7 rfl rfl (fun w hr => ?_)
  have s1 := hr.1.1.1
  have s2 := hr.1.2.1
  have sv := hr.2.1.1
  have kL := light_S regs vb vo bs os.length 60 s2 hbl hol
  have kR := lightRows_S v rs hrl
  have kS := lsteps_S regs vb vo bs os hbl
  obtain ⟨n, hn⟩ : ∃ n, stepsR regs bs os = n := ⟨_, rfl⟩
  rw [hn] at kS
  unfold progV
  repeat' (first | refine C.seq ?_ | refine C.region ?_ | refine L.nil ?_ | refine D.seq ?_ | refine L.assign (k := ?_) | refine L.loadA 0 (c := ?_) | refine L.box (c := fun _ => ?_) | refine C.no (h1 := ?_) | refine L.not (c := ?_) | refine C.skip ?_ | refine L.callQ (lives12_S) (k := ?_) | refine L.callQ kS (hpre := fun w hw => ⟨hr.1.1.at hw, hr.1.2.at hw⟩) (k := ?_))
  rename_i pb
  cases hL : lightM regs bs os.length 60 with
  | false =>
    rw [hL] at kL
    repeat' (first | refine C.seq ?_ | refine C.region ?_ | refine L.nil ?_ | refine D.seq ?_ | refine L.move (k := ?_) | refine L.assign (k := ?_) | refine C.yes (h1 := ?_) | refine L.pickT (k := ?_) | refine L.pass (k := ?_) | refine L.not (c := ?_) | refine C.ret ?_ | refine D.thenRet ?_ | refine L.callQ kL (hpre := fun w hw => hr.1.1.at hw) (k := ?_))
    (refine D.ret (vs := [_]) (RV.tmp rfl RV.nil) ?_; intro w' hw; exact Post.mk (is := []) hw List.nodup_nil rfl ⟨rfl, rfl⟩)
  | true =>
  rw [hL] at kL
  cases hA : lightRowsM rs with
  | false =>
    rw [hA] at kR
    repeat' (first | refine C.seq ?_ | refine C.region ?_ | refine L.nil ?_ | refine D.seq ?_ | refine L.move (k := ?_) | refine L.assign (k := ?_) | refine C.yes (h1 := ?_) | refine L.pickT (k := ?_) | refine L.pickF (k := ?_) | refine L.want (k := ?_) | refine L.pass (k := ?_) | refine L.not (c := ?_) | refine C.ret ?_ | refine D.thenRet ?_ | refine L.callQ kL (hpre := fun w hw => hr.1.1.at hw) (k := ?_) | refine L.callQ kR (hpre := fun w hw => hr.2.at hw) (k := ?_))
    (refine D.ret (vs := [_]) (RV.tmp rfl RV.nil) ?_; intro w' hw; exact Post.mk (is := []) hw List.nodup_nil rfl ⟨rfl, rfl⟩)
  | true =>
  rw [hA] at kR
  obtain ⟨h40, h600⟩ := lightRows_ok hA
  by_cases hst : 5000 < n
  · have c2 : cm .gtr n 5000 = true := cm_gt hst
    repeat' (first | refine C.seq ?_ | refine C.region ?_ | refine L.nil ?_ | refine D.seq ?_ | refine L.move (k := ?_) | refine L.assign (k := ?_) | refine L.cm (c := ?_) | refine C.yes (h1 := ?_) | refine L.pickF (k := ?_) | refine L.want (k := ?_) | refine L.not (c := ?_) | refine C.ret ?_ | refine D.thenRet ?_ | refine L.callQ kL (hpre := fun w hw => hr.1.1.at hw) (k := ?_) | refine L.callQ kR (hpre := fun w hw => hr.2.at hw) (k := ?_))
    (refine D.ret (vs := [_]) (RV.tmp rfl RV.nil) ?_; intro w' hw; exact Post.mk (is := []) hw List.nodup_nil rfl ⟨rfl, rfl⟩)
  have c2 : cm .gtr n 5000 = false := cm_gt' (by omega)
  repeat' (first | refine C.seq ?_ | refine C.region ?_ | refine L.nil ?_ | refine D.seq ?_ | refine L.move (k := ?_) | refine L.cm (c := ?_) | refine L.loadA 0 (c := ?_) | refine C.no (h1 := ?_) | refine L.pickF (k := ?_) | refine L.want (k := ?_) | refine L.not (c := ?_) | refine C.skip ?_ | refine L.callQ kL (hpre := fun w hw => hr.1.1.at hw) (k := ?_) | refine L.callQ kR (hpre := fun w hw => hr.2.at hw) (k := ?_))
  refine L.callP [] (lrun_S regs vb vo v bs os rs hbl hI hrs) (hpre := fun w hw => ⟨⟨hr.1.1.at hw, hr.1.2.at hw⟩, hr.2.at hw⟩) (k := ?_)
  intro u B hu
  rw [hdrop_nil]
  unfold lrunR at hu
  have sN : SlV nilV 0 := SlV.nil
  have z1 : cm .eql ((0 : Nat) : Int) 0 = true := rfl
  by_cases he : (checkM regs bs os).2 ≠ 0
  · rw [if_pos he] at hu
    obtain ⟨rfl, rfl⟩ := hu
    have d1 : cm .neq (checkM regs bs os).2 0 = true := cm_ne he
    have d2 : cm .neq (checkM regs bs os).2 11 = true := cm_ne (check_n11 _ _ _)
    unfold shut
    rw [List.nil_append]
    repeat' (first | refine C.seq ?_ | refine C.region ?_ | refine L.nil ?_ | refine D.seq ?_ | refine L.move (k := ?_) | refine L.assign (k := ?_) | refine L.cm (c := ?_) | refine L.extract (c := ?_) | refine C.yes (h1 := ?_) | refine L.pickT (k := ?_) | refine L.want (k := ?_) | refine L.lenV (c := ?_) | refine C.ret ?_ | refine D.thenRet ?_ | refine L.lenR sN (c := ?_))
    (refine D.ret (vs := [_]) (RV.tmp rfl RV.nil) ?_; intro w' hw; exact Post.mk (is := []) hw List.nodup_nil rfl ⟨rfl, rfl⟩)
  rw [if_neg he] at hu
  replace he : (checkM regs bs os).2 = 0 := by omega
  have hsn : stepsM os = n := by rw [← hn]; unfold stepsR; rw [if_pos he]
  rw [if_neg (by omega)] at hu
  cases hro : rowsM bs rs with
  | false =>
    rw [if_pos hro] at hu
    obtain ⟨rfl, rfl⟩ := hu
    have d1 : cm .neq (2 : Int) 0 = true := rfl
    have d2 : cm .neq (2 : Int) 11 = true := rfl
    unfold shut
    rw [List.nil_append]
    repeat' (first | refine C.seq ?_ | refine C.region ?_ | refine L.nil ?_ | refine D.seq ?_ | refine L.move (k := ?_) | refine L.assign (k := ?_) | refine L.cm (c := ?_) | refine L.extract (c := ?_) | refine C.yes (h1 := ?_) | refine L.pickT (k := ?_) | refine L.want (k := ?_) | refine L.lenV (c := ?_) | refine C.ret ?_ | refine D.thenRet ?_ | refine L.lenR sN (c := ?_))
    (refine D.ret (vs := [_]) (RV.tmp rfl RV.nil) ?_; intro w' hw; exact Post.mk (is := []) hw List.nodup_nil rfl ⟨rfl, rfl⟩)
  | true =>
  rw [if_neg (by rw [hro]; simp)] at hu
  obtain ⟨p, x, h, hp, hpS, hx, g, hxb, hd⟩ := hu
  obtain ⟨f1, f2, f3, f4⟩ := run_facts he hro (by omega) hp hpS hx
  rw [hsn] at f1 f2
  obtain ⟨_, h0, h64, h32, hno, hh, hrf⟩ := check_ok he
  have hte := tree_eq hpS
  rw [← hp] at hte
  rw [hte, hx] at hend
  rcases hd with ⟨ok, rfl, rfl⟩ | ⟨ok, rfl, rfl⟩
  · rw [ok] at hend; cases hend
  · have hln := f2 ok
    have d1 : cm .neq (11 : Int) 0 = true := rfl
    have d1' : cm .neq (11 : Int) 11 = false := rfl
    have d2 : cm .gtr (x.1.l.length : Int) n = false := cm_gt' (by omega)
    have d8 : cm .eql (11 : Int) 0 = false := rfl
    have d9 : cm .eql (x.1.l.length : Int) n = false := cm_no (by omega)
    have d10 : cm .eql (11 : Int) 11 = true := rfl
    unfold shut
    refine L.base _ (M' := []) (List.append_nil _).symm (fun w2 hw2 => ?_)
    have pbO := Old.own (hw2.holds (pb, ob [.int .i64 regs, vb, vo] 25) (by simp)) (A := []) (by simp) _ List.take_length
    have rE : Rd w2 [] (osV x.1.l.length h.ly) x.1.l.length (x.1.l.flatMap encE) := g.l.rdm (T := 55) hw2 (fun x hx => by simp [hx])
    have rB := hr.1.1.at hw2
    have rO := hr.1.2.at hw2
    have rV := hr.2.at hw2
    have sE := rE.1
    repeat' (first | refine C.seq ?_ | refine C.region ?_ | refine L.nil ?_ | refine D.seq ?_ | refine L.move (k := ?_) | refine L.assign (k := ?_) | refine L.cm (c := ?_) | refine L.extract (c := ?_) | refine C.no (h1 := ?_) | refine L.pickT (k := ?_) | refine L.pickF (k := ?_) | refine L.want (k := ?_) | refine L.pass (k := ?_) | refine C.block ?_ | refine C.skip ?_ | refine D.seqR (h := ?_) | refine L.lenR sE (c := ?_))
    refine C.loop (α := Nat) (fun i => i ≤ x.1.l.length) (fun i => [(1, v), (2, .pointer (some ⟨pb, 0, none⟩)), (6, nilV), (7, osV x.1.l.length h.ly), (8, .int .i64 11), (9, .int .i64 (i : Int))]) (fun _ => []) (fun i => x.1.l.length - i) 0 (fun a w hs => hs.lessE rfl (lk_cons rfl (lk_cons rfl (lk_cons rfl (lk_cons rfl (lk_cons rfl (lk_cons rfl (fun _ _ h => lk_nil h)))))))) (Nat.zero_le _) ?_
    intro i hi
    rcases Nat.lt_or_ge i x.1.l.length with hlt | hge
    · have k1 : cm .lss (i : Int) x.1.l.length = true := cm_lo (by omega)
      have k2 : ar .add .i64 (i : Int) 1 = ((i + 1 : Nat) : Int) := wrap_nat (by omega)
      obtain ⟨e, hei⟩ : ∃ e, x.1.l[i]? = some e := ⟨_, List.getElem?_eq_getElem hlt⟩
      obtain ⟨v1, v2, o, ho, v3, v4⟩ := f3 e (List.mem_of_getElem? hei)
      have hopi : e.op = (e.op.toNat : Int) := by omega
      have hopk : e.op.toNat < os.length := by omega
      have oe := rE.2 (by omega)
      have q0 := flat_get encE_len x.1.l i e hei 0 (by decide)
      have q1 := flat_get encE_len x.1.l i e hei 1 (by decide)
      have d3 : cm .lss e.op 0 = false := cm_lo' v1
      have d4 : cm .geq e.op os.length = false := cm_ge' v2
      have d17 : cm .eql o.k 17 = false := cm_no v3
      obtain ⟨ha0, hal⟩ := flat_at encO_len ho
      have ha := ha0.trans (encO_ex o)
      repeat' (first | exact D.endsQ | refine L.pass (k := ?_) | refine L.want (k := ?_) | refine L.move (k := ?_) | refine L.fieldAddr (c := ?_) | refine L.load1 0 (c := ?_) | refine L.cm (c := ?_) | refine L.pickF (k := ?_) | refine L.pickT (k := ?_) | refine L.not (c := ?_) | refine L.nil ?_ | refine C.quiet (h := ?_) | refine L.lenR sE (c := ?_) | refine L.indexR sE hlt (c := ?_) | refine L.loadF oe q0 (c := ?_) | refine L.loadF pbO (i := 2) rfl (c := ?_) | refine L.lenR s2 (c := ?_) | refine C.seq ?_ | refine C.region ?_ | refine D.seq ?_ | refine C.yes (h1 := ?_) | refine C.no (h1 := ?_) | refine C.block ?_ | refine C.skip ?_ | refine QL.fin ?_ | (refine QL.step (v := ?_) (by exact rfl) (by exact rfl) ?_ ?_; rotate_left))
      refine C.make [] (by kernel_rfl) (h := ?_)
      iterate 9 ((refine QP.quiet (v := ?_) (by exact rfl) (by exact rfl) (fun w1 g1 => ?_) ?_; rotate_left); have oe' := (rE.base g1 _ (fun _ h => h)).2 (by omega); have oo' := (rO.base g1 _ (fun _ h => h)).2 (by omega); have pb' := pbO.base g1 _ (fun _ h => h); repeat (first | refine L.nil ?_ | refine L.move (k := ?_) | refine L.fieldAddr (c := ?_) | exact D.endsQ | refine L.indexR sE hlt (c := ?_) | refine L.loadF oe' q0 (c := ?_) | refine L.loadF pb' (i := 2) rfl (c := ?_) | refine L.indexR s2 hopk (hi := hopi) (c := ?_) | refine L.loadOA oo' (i := e.op.toNat * 8) (ho := rfl) (hi := hal) (hcs := ha) (c := ?_)))
      refine QP.mk0 [] (fun F B => ∃ ob1, F = [(10, .pointer (some ⟨ob1, 0, none⟩))] ∧ B = [(ob1, ob [.int .i64 0, .int .i64 0, .int .i64 0, .int .i64 0, .int .i64 0, .int .i64 0, .int .i64 0, .int .u64 0] 39)]) (h := fun w1 g1 => ?_) (k := ?_)
      · rw [List.nil_append]
        repeat (first | refine L.nil ?_ | refine L.alloc (c := fun _ => ?_))
        exact D.endsP1 [_] (hR := ⟨_, rfl, rfl⟩)
      refine QP.mk1 9 [] (fun F B => ∃ ob1, F = [(10, .pointer (some ⟨ob1, 0, none⟩))] ∧ B = [(ob1, ob [.int .i64 o.k, .int .i64 o.d, .int .i64 o.e, .int .i64 o.a, .int .i64 o.b, .int .i64 o.c, .int .i64 o.buf, .int .u64 o.imm] 39)]) (h := ?_) (k := ?_)
      · rintro F B ⟨ob1, rfl, rfl⟩ w1 g1
        simp only [List.cons_append, List.nil_append] at g1 ⊢
        repeat (first | refine L.nil ?_ | refine L.storeV 0 (c := ?_))
        exact D.endsP0 [(10, .pointer (some ⟨ob1, 0, none⟩))] [(ob1, ob [.int .i64 o.k, .int .i64 o.d, .int .i64 o.e, .int .i64 o.a, .int .i64 o.b, .int .i64 o.c, .int .i64 o.buf, .int .u64 o.imm] 39)] (hM := rfl) (hF := fun _ _ h => h) (hR := ⟨_, rfl, rfl⟩)
      refine QP.fin1 [none, none, none, none, none, none, none, none, none, some [], some [9]] 10 (nds := [[], [], [], [], [], [], [], [], [], [], []]) (hM := List.Perm.refl _) (k := ?_)
      rintro F B ⟨ob1, rfl, rfl⟩
      simp only [List.cons_append, List.nil_append]
      cases hm : (cm .eql o.k 14 || cm .eql o.k 15) with
      | true =>
        rw [hm] at v4
        simp only [if_true] at v4
        obtain ⟨a1, a2, a3, a4⟩ := v4
        have hbi : o.buf = (o.buf.toNat : Int) := by omega
        have hbk : o.buf.toNat < bs.length := by omega
        obtain ⟨b, hbb⟩ : ∃ b, bs[o.buf.toNat]? = some b := ⟨_, List.getElem?_eq_getElem hbk⟩
        have hbz : bAt bs o.buf = b := by unfold bAt; rw [hbb]; rfl
        rw [hbz] at a2
        have ob := rB.2 (by omega)
        obtain ⟨b0, _, _⟩ := b_at hbb
        have d5 : cm .lss e.at_ 0 = false := cm_lo' a1
        have d6 : cm .geq e.at_ b.size = false := cm_ge' a2
        cases k14 : cm .eql o.k 14 with
        | true =>
          repeat' (first | exact D.endsQ | refine L.pass (k := ?_) | refine L.want (k := ?_) | refine L.move (k := ?_) | refine L.fieldAddr (c := ?_) | refine L.load1 0 (c := ?_) | refine L.cm (c := ?_) | refine L.pickF (k := ?_) | refine L.pickT (k := ?_) | refine L.not (c := ?_) | refine L.nil ?_ | refine C.quiet (h := ?_) | refine L.indexR sE hlt (c := ?_) | refine L.loadF oe q1 (c := ?_) | refine L.loadF pbO (i := 1) rfl (c := ?_) | refine L.indexR s1 hbk (hi := hbi) (c := ?_) | refine L.loadF ob b0 (c := ?_) | refine C.seq ?_ | refine C.region ?_ | refine D.seq ?_ | refine L.assign (k := ?_) | refine L.ar (c := ?_) | refine C.no (h1 := ?_) | refine D.blkNormal ?_ | refine C.skip ?_ | refine D.seqR (h := ?_) | refine QL.fin ?_ | (refine QL.step (v := ?_) (by exact rfl) (by exact rfl) ?_ ?_; rotate_left))
          exact D.then_ fun a1 w1 hs => ⟨i + 1, by omega, by omega, hs.lessD 1 rfl (lk_cons rfl (lk_cons rfl (lk_cons rfl (lk_cons rfl (lk_cons rfl (lk_cons rfl (fun _ _ h => lk_nil h)))))))⟩
        | false =>
          have k15 : cm .eql o.k 15 = true := by rw [k14, Bool.false_or] at hm; exact hm
          repeat' (first | exact D.endsQ | refine L.pass (k := ?_) | refine L.want (k := ?_) | refine L.move (k := ?_) | refine L.fieldAddr (c := ?_) | refine L.load1 0 (c := ?_) | refine L.cm (c := ?_) | refine L.pickF (k := ?_) | refine L.pickT (k := ?_) | refine L.not (c := ?_) | refine L.nil ?_ | refine C.quiet (h := ?_) | refine L.indexR sE hlt (c := ?_) | refine L.loadF oe q1 (c := ?_) | refine L.loadF pbO (i := 1) rfl (c := ?_) | refine L.indexR s1 hbk (hi := hbi) (c := ?_) | refine L.loadF ob b0 (c := ?_) | refine C.seq ?_ | refine C.region ?_ | refine D.seq ?_ | refine L.assign (k := ?_) | refine L.ar (c := ?_) | refine C.no (h1 := ?_) | refine D.blkNormal ?_ | refine C.skip ?_ | refine D.seqR (h := ?_) | refine QL.fin ?_ | (refine QL.step (v := ?_) (by exact rfl) (by exact rfl) ?_ ?_; rotate_left))
          exact D.then_ fun a1 w1 hs => ⟨i + 1, by omega, by omega, hs.lessD 1 rfl (lk_cons rfl (lk_cons rfl (lk_cons rfl (lk_cons rfl (lk_cons rfl (lk_cons rfl (fun _ _ h => lk_nil h)))))))⟩
      | false =>
        rw [hm] at v4
        simp only [Bool.false_eq_true, if_false] at v4
        obtain ⟨k14, k15⟩ := Bool.or_eq_false_iff.1 hm
        have d7 : cm .neq e.at_ (-1) = false := cm_ne' v4
        repeat' (first | exact D.endsQ | refine L.pass (k := ?_) | refine L.want (k := ?_) | refine L.move (k := ?_) | refine L.fieldAddr (c := ?_) | refine L.load1 0 (c := ?_) | refine L.cm (c := ?_) | refine L.pickF (k := ?_) | refine L.pickT (k := ?_) | refine L.not (c := ?_) | refine L.nil ?_ | refine C.quiet (h := ?_) | refine L.indexR sE hlt (c := ?_) | refine L.loadF oe q1 (c := ?_) | refine C.seq ?_ | refine C.region ?_ | refine D.seq ?_ | refine L.assign (k := ?_) | refine L.ar (c := ?_) | refine C.no (h1 := ?_) | refine D.blkNormal ?_ | refine C.skip ?_ | refine D.seqR (h := ?_) | refine L.passU (k := ?_) | refine QL.fin ?_ | (refine QL.step (v := ?_) (by exact rfl) (by exact rfl) ?_ ?_; rotate_left))
        exact D.then_ fun a1 w1 hs => ⟨i + 1, by omega, by omega, hs.lessD 1 rfl (lk_cons rfl (lk_cons rfl (lk_cons rfl (lk_cons rfl (lk_cons rfl (lk_cons rfl (fun _ _ h => lk_nil h)))))))⟩
    · have k1 : cm .lss (i : Int) x.1.l.length = false := cm_lo' (by omega)
      repeat' (first | refine C.seq ?_ | refine C.region ?_ | refine L.nil ?_ | refine D.seq ?_ | refine L.move (k := ?_) | refine L.assign (k := ?_) | refine L.cm (c := ?_) | refine C.yes (h1 := ?_) | refine C.no (h1 := ?_) | refine L.lenV (c := ?_) | refine C.ret ?_ | refine D.thenRet ?_ | refine C.exit ?_ | refine D.thenExit ?_ | refine D.blkExit ?_ | refine L.lenR sE (c := ?_) | refine L.lenR sN (c := ?_))
      (refine D.ret (vs := [_]) (RV.tmp rfl RV.nil) ?_; intro w' hw; exact Post.mkD 0 (At.back (at_nilr hw2) hw) rfl ⟨rfl, rfl⟩)
end Go.Proofs.Ytkjlgapkcdcmgaa
namespace Go.Proofs.Ytkjlgapkcdcmgaa
open Go Go.RowKit SL
theorem U64.w {n : Int} (h : U64 n) : W64 n := ⟨h.1, by have := h.2; omega⟩
theorem steps_walk (v : Value) (regs : Int) (vb vo : Value) (bs : List Bf) (os : List Lop) (u : Value) (rs : Rws) (w : World) (hp : Prog w v regs vb vo bs os) (hq : RowsA w u rs) :
    Calls Try.prog 7 #[v, u] w fun e w' => e = .returned (.bool true) ∧ Below w.heap.size w w' := by
  obtain ⟨rfl, _, _, ook, hbl, hol, rb, ro⟩ := hp
  have hI : ∀ o ∈ os, W64 o.imm := fun o ho => (ook o ho).imm.w
  have hrs : ∀ r ∈ rs, RngR r.2 := fun r hr x hx => ((hq.ok r hr).1 x hx).w
  cases hend : ((treeOf os).exec 0 (initL bs rs)).2 with
  | true => exact (stepsLaw_T regs vb vo u bs os rs hbl hol hq.len hI hrs hend).true w ⟨⟨rb, ro⟩, hq.rd⟩
  | false => exact (stepsLaw_F regs vb vo u bs os rs hbl hol hq.len hI hrs hend).true w ⟨⟨rb, ro⟩, hq.rd⟩
end Go.Proofs.Ytkjlgapkcdcmgaa
