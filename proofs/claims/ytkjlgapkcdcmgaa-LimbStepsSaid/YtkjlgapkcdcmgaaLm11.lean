/- LimbSteps: the walk. -/
import Derived.Test.YtkjlgapkcdcmgaaLmC
set_option linter.unusedVariables false
set_option linter.unusedSimpArgs false
namespace Go.Proofs.Ytkjlgapkcdcmgaa
open Go Go.RowKit SL
attribute [local irreducible] SL.L SL.C SL.D SL.N SL.H SL.QL SL.QW SL.QP

theorem rstep_n11 {regs : Int} {bs : List Bf} {c : Ck} {o : Lop} {e : Int} (h : rstep regs bs c o = .inl e) : e ≠ 11 := by
  unfold rstep at h
  split at h
  · split at h
    · split at h
      · cases h; decide
      · cases h
    · split at h
      · cases h; decide
      · split at h
        · cases h; decide
        · split at h
          · cases h; decide
          · split at h
            · cases h; decide
            · cases h
  · cases h; decide
theorem rrun_n11 {regs : Int} {bs : List Bf} : ∀ (os : List Lop) (i : Nat) (c : Ck), (rrun regs bs os i c).2 ≠ 11
  | [], i, c => by unfold rrun; simp only; split <;> decide
  | o :: os, i, c => by
    unfold rrun
    cases hs : rstep regs bs c o with
    | inl e => exact rstep_n11 hs
    | inr c' => exact rrun_n11 os (i + 1) c'
theorem check_n11 (regs : Int) (bs : List Bf) (os : List Lop) : (checkM regs bs os).2 ≠ 11 := by
  unfold checkM
  cases hh : rhead regs bs os.length with
  | none => exact rrun_n11 _ _ _
  | some e =>
    simp only
    unfold rhead at hh
    split at hh
    · cases hh; decide
    · split at hh
      · cases hh; decide
      · split at hh
        · cases hh; decide
        · split at hh
          · cases hh; decide
          · cases hh
/-- What is known of a run's end. -/
theorem run_facts {regs : Int} {bs : List Bf} {os : List Lop} {rs : Rws} {p : Pg} {x : RS × Bool} (he : (checkM regs bs os).2 = 0) (hro : rowsM bs rs = true) (hst : stepsM os ≤ 16777216) (hp : os = p.flat) (hpS : p.Safe regs bs []) (hx : p.exec 0 (initL bs rs) = x) :
    (x.2 = true → (x.1.l.length : Int) = stepsM os) ∧ (x.2 = false → (x.1.l.length : Int) < stepsM os) ∧ (∀ e ∈ x.1.l, EvOk os bs e) ∧
    (∀ (i : Nat) (b : Bf) (r : Value × List Int), bs[i]? = some b → rs[i]? = some r → (bufAt x.1 (i : Int)).length = b.size.toNat ∧ (b.kind = 1 → bufAt x.1 (i : Int) = r.2)) := by
  obtain ⟨_, _, _, _, _, hh, hrf⟩ := check_ok he
  obtain ⟨hrl, hok⟩ := rows_ok hro
  have hsz := buf_size hh
  have h1 := exec_len p 0 (initL bs rs)
  have h2 := cnt_steps hpS (by rw [← hp]; exact hst)
  rw [← hp] at h2
  rw [hx] at h1
  have h3 : (initL bs rs).l.length = 0 := rfl
  rw [h3] at h1
  have hk := keep_all hpS hp (initL bs rs)
  rw [hx] at hk
  have hb : ∀ (i : Nat) (b : Bf) (r : Value × List Int), bs[i]? = some b → rs[i]? = some r → bufAt (initL bs rs) (i : Int) = initRow b r.2 := fun i b r hbi hri => by
    show ((initB bs rs)[(i : Int).toNat]?).getD [] = _
    rw [Int.toNat_natCast, initB_at hbi hri]; rfl
  refine ⟨fun h => by have := h1.1 h; omega, fun h => by have := h1.2 h; omega, hk.ev (fun k h0 hlt => ?_) (fun e he => by cases he), fun i b r hbi hri => ?_⟩
  · have hkn : k.toNat < bs.length := by omega
    obtain ⟨b, hbb⟩ : ∃ b, bs[k.toNat]? = some b := ⟨_, List.getElem?_eq_getElem hkn⟩
    obtain ⟨r, hrr⟩ : ∃ r, rs[k.toNat]? = some r := ⟨_, List.getElem?_eq_getElem (by omega)⟩
    have e : k = (k.toNat : Int) := by omega
    have hz := hsz b (List.mem_of_getElem? hbb)
    rw [e, hb _ b r hbb hrr, initRow_len (okRow_le (hok _ b r hbb hrr) hz.1)]
    unfold bAt
    rw [Int.toNat_natCast, hbb]
    simp only [Option.getD_some]
    omega
  · have hz := hsz b (List.mem_of_getElem? hbi)
    have hle := okRow_le (hok _ b r hbi hri) hz.1
    refine ⟨by rw [hk.len, hb i b r hbi hri, initRow_len hle], fun hk1 => ?_⟩
    rw [hk.same i (by unfold bAt; rw [Int.toNat_natCast, hbi]; exact hk1), hb i b r hbi hri]
    have h5 := hok _ b r hbi hri
    unfold okRow at h5
    rw [if_neg (by rw [cm_no (by omega)]; simp)] at h5
    have h6 : (r.2.length : Int) = b.size := by simpa [cm] using h5
    unfold initRow
    rw [show b.size.toNat - r.2.length = 0 by omega]
    simp
set_option maxRecDepth 100000 in
set_option maxHeartbeats 16000000 in
theorem stepsLaw_T (regs : Int) (vb vo v : Value) (bs : List Bf) (os : List Lop) (rs : Rws) (hbl : bs.length ≤ maxLen) (hol : os.length ≤ maxLen) (hrl : rs.length ≤ maxLen) (hI : ∀ o ∈ os, W64 o.imm) (hrs : ∀ r ∈ rs, RngR r.2) (hend : ((treeOf os).exec 0 (initL bs rs)).2 = true) :
    Ctr Try.prog 7 [progV regs vb vo, v] [] (fun w => (Rd w [] vb bs.length (bs.flatMap encB) ∧ Rd w [] vo os.length (os.flatMap encO)) ∧ RdR w [] v rs) (is (.bool true) []) := by
  refine Ctr.enter Try.func7 Try.ntmps7 rfl rfl (fun w hr => ?_)
  have s1 := hr.1.1.1
  have s2 := hr.1.2.1
  have sv := hr.2.1.1
  have kL := light_S regs vb vo bs os.length 60 s2 hbl hol
  have kR := lightRows_S v rs hrl
  have kS := lsteps_S regs vb vo bs os hbl
  obtain ⟨n, hn⟩ : ∃ n, stepsR regs bs os = n := ⟨_, rfl⟩
  rw [hn] at kS
  unfold progV
  repeat' (first | refine C.seq ?_ | refine C.region ?_ | refine L.nil ?_ | refine D.seq ?_ | refine L.assign (k := ?_) | refine L.loadA 0 (c := ?_) | refine L.box (c := fun _ => ?_) | refine C.no (h1 := ?_) | refine L.not (c := ?_) | refine C.skip ?_ | refine L.callQ (lives12_S) (k := ?_) | refine L.callQ kS (hpre := fun w hw => ⟨hr.1.1.at hw, hr.1.2.at hw⟩) (k := ?_))
  rename_i pb
  cases hL : lightM regs bs os.length 60 with
  | false =>
    rw [hL] at kL
    repeat' (first | refine C.seq ?_ | refine C.region ?_ | refine L.nil ?_ | refine D.seq ?_ | refine L.move (k := ?_) | refine L.assign (k := ?_) | refine C.yes (h1 := ?_) | refine L.pickT (k := ?_) | refine L.pass (k := ?_) | refine L.not (c := ?_) | refine C.ret ?_ | refine D.thenRet ?_ | refine L.callQ kL (hpre := fun w hw => hr.1.1.at hw) (k := ?_))
    (refine D.ret (vs := [_]) (RV.tmp rfl RV.nil) ?_; intro w' hw; exact Post.mk (is := []) hw List.nodup_nil rfl ⟨rfl, rfl⟩)
  | true =>
  rw [hL] at kL
  cases hA : lightRowsM rs with
  | false =>
    rw [hA] at kR
    repeat' (first | refine C.seq ?_ | refine C.region ?_ | refine L.nil ?_ | refine D.seq ?_ | refine L.move (k := ?_) | refine L.assign (k := ?_) | refine C.yes (h1 := ?_) | refine L.pickT (k := ?_) | refine L.pickF (k := ?_) | refine L.want (k := ?_) | refine L.pass (k := ?_) | refine L.not (c := ?_) | refine C.ret ?_ | refine D.thenRet ?_ | refine L.callQ kL (hpre := fun w hw => hr.1.1.at hw) (k := ?_) | refine L.callQ kR (hpre := fun w hw => hr.2.at hw) (k := ?_))
    (refine D.ret (vs := [_]) (RV.tmp rfl RV.nil) ?_; intro w' hw; exact Post.mk (is := []) hw List.nodup_nil rfl ⟨rfl, rfl⟩)
  | true =>
  rw [hA] at kR
  obtain ⟨h40, h600⟩ := lightRows_ok hA
  by_cases hst : 5000 < n
  · have c2 : cm .gtr n 5000 = true := cm_gt hst
    repeat' (first | refine C.seq ?_ | refine C.region ?_ | refine L.nil ?_ | refine D.seq ?_ | refine L.move (k := ?_) | refine L.assign (k := ?_) | refine L.cm (c := ?_) | refine C.yes (h1 := ?_) | refine L.pickF (k := ?_) | refine L.want (k := ?_) | refine L.not (c := ?_) | refine C.ret ?_ | refine D.thenRet ?_ | refine L.callQ kL (hpre := fun w hw => hr.1.1.at hw) (k := ?_) | refine L.callQ kR (hpre := fun w hw => hr.2.at hw) (k := ?_))
    (refine D.ret (vs := [_]) (RV.tmp rfl RV.nil) ?_; intro w' hw; exact Post.mk (is := []) hw List.nodup_nil rfl ⟨rfl, rfl⟩)
  have c2 : cm .gtr n 5000 = false := cm_gt' (by omega)
  repeat' (first | refine C.seq ?_ | refine C.region ?_ | refine L.nil ?_ | refine D.seq ?_ | refine L.move (k := ?_) | refine L.cm (c := ?_) | refine L.loadA 0 (c := ?_) | refine C.no (h1 := ?_) | refine L.pickF (k := ?_) | refine L.want (k := ?_) | refine L.not (c := ?_) | refine C.skip ?_ | refine L.callQ kL (hpre := fun w hw => hr.1.1.at hw) (k := ?_) | refine L.callQ kR (hpre := fun w hw => hr.2.at hw) (k := ?_))
  refine L.callP [] (lrun_S regs vb vo v bs os rs hbl hI hrs) (hpre := fun w hw => ⟨⟨hr.1.1.at hw, hr.1.2.at hw⟩, hr.2.at hw⟩) (k := ?_)
  intro u B hu
  rw [hdrop_nil]
  unfold lrunR at hu
  have sN : SlV nilV 0 := SlV.nil
  have z1 : cm .eql ((0 : Nat) : Int) 0 = true := rfl
  by_cases he : (checkM regs bs os).2 ≠ 0
  · rw [if_pos he] at hu
    obtain ⟨rfl, rfl⟩ := hu
    have d1 : cm .neq (checkM regs bs os).2 0 = true := cm_ne he
    have d2 : cm .neq (checkM regs bs os).2 11 = true := cm_ne (check_n11 _ _ _)
    unfold shut
    rw [List.nil_append]
    repeat' (first | refine C.seq ?_ | refine C.region ?_ | refine L.nil ?_ | refine D.seq ?_ | refine L.move (k := ?_) | refine L.assign (k := ?_) | refine L.cm (c := ?_) | refine L.extract (c := ?_) | refine C.yes (h1 := ?_) | refine L.pickT (k := ?_) | refine L.want (k := ?_) | refine L.lenV (c := ?_) | refine C.ret ?_ | refine D.thenRet ?_ | refine L.lenR sN (c := ?_))
    (refine D.ret (vs := [_]) (RV.tmp rfl RV.nil) ?_; intro w' hw; exact Post.mk (is := []) hw List.nodup_nil rfl ⟨rfl, rfl⟩)
  rw [if_neg he] at hu
  replace he : (checkM regs bs os).2 = 0 := by omega
  have hsn : stepsM os = n := by rw [← hn]; unfold stepsR; rw [if_pos he]
  rw [if_neg (by omega)] at hu
  cases hro : rowsM bs rs with
  | false =>
    rw [if_pos hro] at hu
    obtain ⟨rfl, rfl⟩ := hu
    have d1 : cm .neq (2 : Int) 0 = true := rfl
    have d2 : cm .neq (2 : Int) 11 = true := rfl
    unfold shut
    rw [List.nil_append]
    repeat' (first | refine C.seq ?_ | refine C.region ?_ | refine L.nil ?_ | refine D.seq ?_ | refine L.move (k := ?_) | refine L.assign (k := ?_) | refine L.cm (c := ?_) | refine L.extract (c := ?_) | refine C.yes (h1 := ?_) | refine L.pickT (k := ?_) | refine L.want (k := ?_) | refine L.lenV (c := ?_) | refine C.ret ?_ | refine D.thenRet ?_ | refine L.lenR sN (c := ?_))
    (refine D.ret (vs := [_]) (RV.tmp rfl RV.nil) ?_; intro w' hw; exact Post.mk (is := []) hw List.nodup_nil rfl ⟨rfl, rfl⟩)
  | true =>
  rw [if_neg (by rw [hro]; simp)] at hu
  obtain ⟨p, x, h, hp, hpS, hx, g, hxb, hd⟩ := hu
  obtain ⟨f1, f2, f3, f4⟩ := run_facts he hro (by omega) hp hpS hx
  rw [hsn] at f1 f2
  obtain ⟨_, h0, h64, h32, hno, hh, hrf⟩ := check_ok he
  have hte := tree_eq hpS
  rw [← hp] at hte
  rw [hte, hx] at hend
  rcases hd with ⟨ok, rfl, rfl⟩ | ⟨ok, rfl, rfl⟩
  · have hln := f1 ok
    have d1 : cm .neq (0 : Int) 0 = false := rfl
    have d2 : cm .gtr (x.1.l.length : Int) n = false := cm_gt' (by omega)
    have d8 : cm .eql (0 : Int) 0 = true := rfl
    have d9 : cm .neq (x.1.l.length : Int) n = false := cm_ne' hln
    have d10 : cm .eql (0 : Int) 11 = false := rfl
    unfold shut
    refine L.base _ (M' := []) (List.append_nil _).symm (fun w2 hw2 => ?_)
    have pbO := Old.own (hw2.holds (pb, ob [.int .i64 regs, vb, vo] 25) (by simp)) (A := []) (by simp) _ List.take_length
    have rE : Rd w2 [] (osV x.1.l.length h.ly) x.1.l.length (x.1.l.flatMap encE) := g.l.rdm (T := 55) hw2 (fun x hx => by simp [hx])
    have rB := hr.1.1.at hw2
    have rO := hr.1.2.at hw2
    have rV := hr.2.at hw2
    have sE := rE.1
    have rR := own_rdR g.b rfl g.y hw2 (fun x hx => by simp [hx]) (fun x hx => by simp [hx])
    have sX := rR.1.1
    rw [rwsOf_len g.b.1] at sX
    repeat' (first | refine C.seq ?_ | refine C.region ?_ | refine L.nil ?_ | refine D.seq ?_ | refine L.move (k := ?_) | refine L.assign (k := ?_) | refine L.cm (c := ?_) | refine L.extract (c := ?_) | refine C.no (h1 := ?_) | refine L.pickT (k := ?_) | refine L.pickF (k := ?_) | refine L.want (k := ?_) | refine L.pass (k := ?_) | refine C.block ?_ | refine C.skip ?_ | refine D.seqR (h := ?_) | refine L.lenR sE (c := ?_))
    refine C.loop (α := Nat) (fun i => i ≤ x.1.l.length) (fun i => [(1, v), (2, .pointer (some ⟨pb, 0, none⟩)), (6, osV x.1.bufs.length h.y), (7, osV x.1.l.length h.ly), (8, .int .i64 0), (9, .int .i64 (i : Int))]) (fun _ => []) (fun i => x.1.l.length - i) 0 (fun a w hs => hs.lessE rfl (lk_cons rfl (lk_cons rfl (lk_cons rfl (lk_cons rfl (lk_cons rfl (lk_cons rfl (fun _ _ h => lk_nil h)))))))) (Nat.zero_le _) ?_
    intro i hi
    rcases Nat.lt_or_ge i x.1.l.length with hlt | hge
    · have k1 : cm .lss (i : Int) x.1.l.length = true := cm_lo (by omega)
      have k2 : ar .add .i64 (i : Int) 1 = ((i + 1 : Nat) : Int) := wrap_nat (by omega)
      obtain ⟨e, hei⟩ : ∃ e, x.1.l[i]? = some e := ⟨_, List.getElem?_eq_getElem hlt⟩
      obtain ⟨v1, v2, o, ho, v3, v4⟩ := f3 e (List.mem_of_getElem? hei)
      have hopi : e.op = (e.op.toNat : Int) := by omega
      have hopk : e.op.toNat < os.length := by omega
      have oe := rE.2 (by omega)
      have q0 := flat_get encE_len x.1.l i e hei 0 (by decide)
      have q1 := flat_get encE_len x.1.l i e hei 1 (by decide)
      have d3 : cm .lss e.op 0 = false := cm_lo' v1
      have d4 : cm .geq e.op os.length = false := cm_ge' v2
      have d17 : cm .eql o.k 17 = false := cm_no v3
      obtain ⟨ha0, hal⟩ := flat_at encO_len ho
      have ha := ha0.trans (encO_ex o)
      repeat' (first | exact D.endsQ | refine L.pass (k := ?_) | refine L.want (k := ?_) | refine L.move (k := ?_) | refine L.fieldAddr (c := ?_) | refine L.load1 0 (c := ?_) | refine L.cm (c := ?_) | refine L.pickF (k := ?_) | refine L.pickT (k := ?_) | refine L.not (c := ?_) | refine L.nil ?_ | refine C.quiet (h := ?_) | refine L.lenR sE (c := ?_) | refine L.indexR sE hlt (c := ?_) | refine L.loadF oe q0 (c := ?_) | refine L.loadF pbO (i := 2) rfl (c := ?_) | refine L.lenR s2 (c := ?_) | refine C.seq ?_ | refine C.region ?_ | refine D.seq ?_ | refine C.yes (h1 := ?_) | refine C.no (h1 := ?_) | refine C.block ?_ | refine C.skip ?_ | refine QL.fin ?_ | (refine QL.step (v := ?_) (by exact rfl) (by exact rfl) ?_ ?_; rotate_left))
      refine C.make [] (by kernel_rfl) (h := ?_)
      iterate 9 ((refine QP.quiet (v := ?_) (by exact rfl) (by exact rfl) (fun w1 g1 => ?_) ?_; rotate_left); have oe' := (rE.base g1 _ (fun _ h => h)).2 (by omega); have oo' := (rO.base g1 _ (fun _ h => h)).2 (by omega); have pb' := pbO.base g1 _ (fun _ h => h); repeat (first | refine L.nil ?_ | refine L.move (k := ?_) | refine L.fieldAddr (c := ?_) | exact D.endsQ | refine L.indexR sE hlt (c := ?_) | refine L.loadF oe' q0 (c := ?_) | refine L.loadF pb' (i := 2) rfl (c := ?_) | refine L.indexR s2 hopk (hi := hopi) (c := ?_) | refine L.loadOA oo' (i := e.op.toNat * 8) (ho := rfl) (hi := hal) (hcs := ha) (c := ?_)))
      refine QP.mk0 [] (fun F B => ∃ ob1, F = [(10, .pointer (some ⟨ob1, 0, none⟩))] ∧ B = [(ob1, ob [.int .i64 0, .int .i64 0, .int .i64 0, .int .i64 0, .int .i64 0, .int .i64 0, .int .i64 0, .int .u64 0] 39)]) (h := fun w1 g1 => ?_) (k := ?_)
      · rw [List.nil_append]
        repeat (first | refine L.nil ?_ | refine L.alloc (c := fun _ => ?_))
        exact D.endsP1 [_] (hR := ⟨_, rfl, rfl⟩)
      refine QP.mk1 9 [] (fun F B => ∃ ob1, F = [(10, .pointer (some ⟨ob1, 0, none⟩))] ∧ B = [(ob1, ob [.int .i64 o.k, .int .i64 o.d, .int .i64 o.e, .int .i64 o.a, .int .i64 o.b, .int .i64 o.c, .int .i64 o.buf, .int .u64 o.imm] 39)]) (h := ?_) (k := ?_)
      · rintro F B ⟨ob1, rfl, rfl⟩ w1 g1
        simp only [List.cons_append, List.nil_append] at g1 ⊢
        repeat (first | refine L.nil ?_ | refine L.storeV 0 (c := ?_))
        exact D.endsP0 [(10, .pointer (some ⟨ob1, 0, none⟩))] [(ob1, ob [.int .i64 o.k, .int .i64 o.d, .int .i64 o.e, .int .i64 o.a, .int .i64 o.b, .int .i64 o.c, .int .i64 o.buf, .int .u64 o.imm] 39)] (hM := rfl) (hF := fun _ _ h => h) (hR := ⟨_, rfl, rfl⟩)
      refine QP.fin1 [none, none, none, none, none, none, none, none, none, some [], some [9]] 10 (nds := [[], [], [], [], [], [], [], [], [], [], []]) (hM := List.Perm.refl _) (k := ?_)
      rintro F B ⟨ob1, rfl, rfl⟩
      simp only [List.cons_append, List.nil_append]
      cases hm : (cm .eql o.k 14 || cm .eql o.k 15) with
      | true =>
        rw [hm] at v4
        simp only [if_true] at v4
        obtain ⟨a1, a2, a3, a4⟩ := v4
        have hbi : o.buf = (o.buf.toNat : Int) := by omega
        have hbk : o.buf.toNat < bs.length := by omega
        obtain ⟨b, hbb⟩ : ∃ b, bs[o.buf.toNat]? = some b := ⟨_, List.getElem?_eq_getElem hbk⟩
        have hbz : bAt bs o.buf = b := by unfold bAt; rw [hbb]; rfl
        rw [hbz] at a2
        have ob := rB.2 (by omega)
        obtain ⟨b0, _, _⟩ := b_at hbb
        have d5 : cm .lss e.at_ 0 = false := cm_lo' a1
        have d6 : cm .geq e.at_ b.size = false := cm_ge' a2
        cases k14 : cm .eql o.k 14 with
        | true =>
          repeat' (first | exact D.endsQ | refine L.pass (k := ?_) | refine L.want (k := ?_) | refine L.move (k := ?_) | refine L.fieldAddr (c := ?_) | refine L.load1 0 (c := ?_) | refine L.cm (c := ?_) | refine L.pickF (k := ?_) | refine L.pickT (k := ?_) | refine L.not (c := ?_) | refine L.nil ?_ | refine C.quiet (h := ?_) | refine L.indexR sE hlt (c := ?_) | refine L.loadF oe q1 (c := ?_) | refine L.loadF pbO (i := 1) rfl (c := ?_) | refine L.indexR s1 hbk (hi := hbi) (c := ?_) | refine L.loadF ob b0 (c := ?_) | refine C.seq ?_ | refine C.region ?_ | refine D.seq ?_ | refine L.assign (k := ?_) | refine L.ar (c := ?_) | refine C.no (h1 := ?_) | refine D.blkNormal ?_ | refine C.skip ?_ | refine D.seqR (h := ?_) | refine QL.fin ?_ | (refine QL.step (v := ?_) (by exact rfl) (by exact rfl) ?_ ?_; rotate_left))
          exact D.then_ fun a1 w1 hs => ⟨i + 1, by omega, by omega, hs.lessD 1 rfl (lk_cons rfl (lk_cons rfl (lk_cons rfl (lk_cons rfl (lk_cons rfl (lk_cons rfl (fun _ _ h => lk_nil h)))))))⟩
        | false =>
          have k15 : cm .eql o.k 15 = true := by rw [k14, Bool.false_or] at hm; exact hm
          repeat' (first | exact D.endsQ | refine L.pass (k := ?_) | refine L.want (k := ?_) | refine L.move (k := ?_) | refine L.fieldAddr (c := ?_) | refine L.load1 0 (c := ?_) | refine L.cm (c := ?_) | refine L.pickF (k := ?_) | refine L.pickT (k := ?_) | refine L.not (c := ?_) | refine L.nil ?_ | refine C.quiet (h := ?_) | refine L.indexR sE hlt (c := ?_) | refine L.loadF oe q1 (c := ?_) | refine L.loadF pbO (i := 1) rfl (c := ?_) | refine L.indexR s1 hbk (hi := hbi) (c := ?_) | refine L.loadF ob b0 (c := ?_) | refine C.seq ?_ | refine C.region ?_ | refine D.seq ?_ | refine L.assign (k := ?_) | refine L.ar (c := ?_) | refine C.no (h1 := ?_) | refine D.blkNormal ?_ | refine C.skip ?_ | refine D.seqR (h := ?_) | refine QL.fin ?_ | (refine QL.step (v := ?_) (by exact rfl) (by exact rfl) ?_ ?_; rotate_left))
          exact D.then_ fun a1 w1 hs => ⟨i + 1, by omega, by omega, hs.lessD 1 rfl (lk_cons rfl (lk_cons rfl (lk_cons rfl (lk_cons rfl (lk_cons rfl (lk_cons rfl (fun _ _ h => lk_nil h)))))))⟩
      | false =>
        rw [hm] at v4
        simp only [Bool.false_eq_true, if_false] at v4
        obtain ⟨k14, k15⟩ := Bool.or_eq_false_iff.1 hm
        have d7 : cm .neq e.at_ (-1) = false := cm_ne' v4
        repeat' (first | exact D.endsQ | refine L.pass (k := ?_) | refine L.want (k := ?_) | refine L.move (k := ?_) | refine L.fieldAddr (c := ?_) | refine L.load1 0 (c := ?_) | refine L.cm (c := ?_) | refine L.pickF (k := ?_) | refine L.pickT (k := ?_) | refine L.not (c := ?_) | refine L.nil ?_ | refine C.quiet (h := ?_) | refine L.indexR sE hlt (c := ?_) | refine L.loadF oe q1 (c := ?_) | refine C.seq ?_ | refine C.region ?_ | refine D.seq ?_ | refine L.assign (k := ?_) | refine L.ar (c := ?_) | refine C.no (h1 := ?_) | refine D.blkNormal ?_ | refine C.skip ?_ | refine D.seqR (h := ?_) | refine L.passU (k := ?_) | refine QL.fin ?_ | (refine QL.step (v := ?_) (by exact rfl) (by exact rfl) ?_ ?_; rotate_left))
        exact D.then_ fun a1 w1 hs => ⟨i + 1, by omega, by omega, hs.lessD 1 rfl (lk_cons rfl (lk_cons rfl (lk_cons rfl (lk_cons rfl (lk_cons rfl (lk_cons rfl (fun _ _ h => lk_nil h)))))))⟩
    · have k1 : cm .lss (i : Int) x.1.l.length = false := cm_lo' (by omega)
      have d11 : cm .neq (x.1.bufs.length : Int) bs.length = false := cm_ne' (by rw [hxb])
      repeat' (first | refine C.seq ?_ | refine C.region ?_ | refine L.nil ?_ | refine D.seq ?_ | refine L.move (k := ?_) | refine L.assign (k := ?_) | refine L.cm (c := ?_) | refine L.fieldAddr (c := ?_) | refine C.no (h1 := ?_) | refine C.block ?_ | refine C.exit ?_ | refine D.thenExit ?_ | refine D.blkExit ?_ | refine C.skip ?_ | refine L.lenR sE (c := ?_) | refine L.lenR sX (c := ?_) | refine L.lenR s1 (c := ?_) | refine L.loadF pbO (i := 1) rfl (c := ?_))
      refine C.loop (α := Nat) (fun i => i ≤ bs.length) (fun i => [(1, v), (2, .pointer (some ⟨pb, 0, none⟩)), (6, osV x.1.bufs.length h.y), (12, .int .i64 (i : Int))]) (fun _ => []) (fun i => bs.length - i) 0 (fun a w hs => hs.lessE rfl (lk_cons rfl (lk_cons rfl (lk_cons rfl (lk_cons rfl (fun _ _ h => lk_nil h)))))) (Nat.zero_le _) ?_
      intro j hj
      rcases Nat.lt_or_ge j bs.length with hlt2 | hge2
      · have k1' : cm .lss (j : Int) x.1.bufs.length = true := cm_lo (by omega)
        have k2' : ar .add .i64 (j : Int) 1 = ((j + 1 : Nat) : Int) := wrap_nat (by omega)
        obtain ⟨hrl2, _⟩ := rows_ok hro
        obtain ⟨b, hb⟩ : ∃ b, bs[j]? = some b := ⟨_, List.getElem?_eq_getElem hlt2⟩
        obtain ⟨r, hry⟩ : ∃ r, rs[j]? = some r := ⟨_, List.getElem?_eq_getElem (by omega)⟩
        obtain ⟨q, hq⟩ : ∃ q, x.1.bufs[j]? = some q := ⟨_, List.getElem?_eq_getElem (by omega)⟩
        obtain ⟨y1, hy1⟩ : ∃ y, h.ys[j]? = some y := ⟨_, List.getElem?_eq_getElem (by rw [g.b.1]; omega)⟩
        obtain ⟨g1, g2⟩ := f4 j b r hb hry
        have hbq : bufAt x.1 (j : Int) = q := by unfold bufAt; rw [Int.toNat_natCast, hq]; rfl
        rw [hbq] at g1 g2
        have hq1 := rwsOf_at hq hy1
        have oX := rR.1.2 (by rw [rwsOf_len g.b.1]; omega)
        have rq := rR.2 _ (List.mem_of_getElem? hq1)
        have oB := rB.2 (by omega)
        have oV := rV.1.2 (by omega)
        have rr := rV.2 r (List.mem_of_getElem? hry)
        obtain ⟨b0, b1, _⟩ := b_at hb
        have hbz := buf_size hh b (List.mem_of_getElem? hb)
        have hl1 : j < x.1.bufs.length := by omega
        have hl2 : j < rs.length := by omega
        have d12 : cm .neq (q.length : Int) b.size = false := cm_ne' (by omega)
        have kU := sameU_S (osV q.length y1) r.1 q r.2 (by omega)
        cases hk1 : cm .eql b.kind 1 with
        | false =>
          repeat' (first | exact D.endsQ | refine L.pass (k := ?_) | refine L.want (k := ?_) | refine L.move (k := ?_) | refine L.fieldAddr (c := ?_) | refine L.load1 0 (c := ?_) | refine L.cm (c := ?_) | refine L.pickF (k := ?_) | refine L.pickT (k := ?_) | refine L.not (c := ?_) | refine L.nil ?_ | refine C.quiet (h := ?_) | refine L.lenR sX (c := ?_) | refine L.indexR sX hl1 (c := ?_) | refine L.loadF oX (enc_at (enc := Prod.fst) hq1) (c := ?_) | refine L.lenR rq.1 (c := ?_) | refine L.loadF pbO (i := 1) rfl (c := ?_) | refine L.indexR s1 hlt2 (c := ?_) | refine L.loadF oB b0 (c := ?_) | refine L.loadF oB b1 (c := ?_) | refine C.seq ?_ | refine C.region ?_ | refine D.seq ?_ | refine L.assign (k := ?_) | refine L.ar (c := ?_) | refine C.yes (h1 := ?_) | refine C.no (h1 := ?_) | refine C.block ?_ | refine D.blkNormal ?_ | refine C.skip ?_ | refine QL.fin ?_ | (refine QL.step (v := ?_) (by exact rfl) (by exact rfl) ?_ ?_; rotate_left))
          exact D.then_ fun a1 w1 hs => ⟨j + 1, by omega, by omega, hs.lessE rfl (lk_cons rfl (lk_cons rfl (lk_cons rfl (lk_cons rfl (fun _ _ h => lk_nil h)))))⟩
        | true =>
          rw [decide_eq_true (g2 (cm_yes' hk1))] at kU
          repeat' (first | exact D.endsQ | refine L.pass (k := ?_) | refine L.want (k := ?_) | refine L.move (k := ?_) | refine L.fieldAddr (c := ?_) | refine L.load1 0 (c := ?_) | refine L.cm (c := ?_) | refine L.pickF (k := ?_) | refine L.pickT (k := ?_) | refine L.not (c := ?_) | refine L.nil ?_ | refine C.quiet (h := ?_) | refine L.lenR sX (c := ?_) | refine L.indexR sX hl1 (c := ?_) | refine L.loadF oX (enc_at (enc := Prod.fst) hq1) (c := ?_) | refine L.lenR rq.1 (c := ?_) | refine L.loadF pbO (i := 1) rfl (c := ?_) | refine L.indexR s1 hlt2 (c := ?_) | refine L.loadF oB b0 (c := ?_) | refine L.loadF oB b1 (c := ?_) | refine L.indexR sv hl2 (c := ?_) | refine L.loadF oV (enc_at (enc := Prod.fst) hry) (c := ?_) | refine L.callQ kU (hpre := fun w1 hw => ⟨rq.at hw, rr.at hw⟩) (k := ?_) | refine C.seq ?_ | refine C.region ?_ | refine D.seq ?_ | refine L.assign (k := ?_) | refine L.ar (c := ?_) | refine C.yes (h1 := ?_) | refine C.no (h1 := ?_) | refine C.block ?_ | refine D.blkNormal ?_ | refine C.skip ?_ | refine QL.fin ?_ | (refine QL.step (v := ?_) (by exact rfl) (by exact rfl) ?_ ?_; rotate_left))
          exact D.then_ fun a1 w1 hs => ⟨j + 1, by omega, by omega, hs.lessE rfl (lk_cons rfl (lk_cons rfl (lk_cons rfl (lk_cons rfl (fun _ _ h => lk_nil h)))))⟩
      · have k1' : cm .lss (j : Int) x.1.bufs.length = false := cm_lo' (by omega)
        repeat' (first | refine C.seq ?_ | refine C.region ?_ | refine L.nil ?_ | refine D.seq ?_ | refine L.move (k := ?_) | refine L.assign (k := ?_) | refine L.cm (c := ?_) | refine C.no (h1 := ?_) | refine C.ret ?_ | refine C.exit ?_ | refine D.thenExit ?_ | refine D.blkExit ?_ | refine L.lenR sX (c := ?_))
        (refine D.ret (vs := [_]) (RV.tmp rfl RV.nil) ?_; intro w' hw; exact Post.mkD 0 (At.back (at_nilr hw2) hw) rfl ⟨rfl, rfl⟩)
  · rw [ok] at hend; cases hend
end Go.Proofs.Ytkjlgapkcdcmgaa
