/- keysmithref12's run: do. -/
import Derived.Test.YtkjlgapkcdcmgaaLk35
set_option linter.unusedVariables false
set_option linter.unusedSimpArgs false
namespace Go.Proofs.Ytkjlgapkcdcmgaa
open Go Go.RowKit SL
attribute [local irreducible] SL.L SL.C SL.D SL.N SL.H SL.QL SL.QW SL.QP

set_option maxRecDepth 100000 in
set_option maxHeartbeats 8000000 in
theorem do12_S (xb : Nat) (regs : Int) (vb vo : Value) (bs : List Bf) (os : List Lop) (i : Nat) (o : Lop) (s : RS) (h : HG) (ho : os[i]? = some o) (hf : rfields regs bs o = true) (h16 : o.k ≠ 16) (h17 : o.k ≠ 17)
    (hR : s.r.length = regs.toNat) (hB : s.bufs.length = bs.length) (hl : s.l.length ≤ 16777216) (hg : RunG s h) :
    Ctr Try.prog 63 [.pointer (some ⟨xb, 0, none⟩), .int .i64 (i : Int)] (runHp xb regs vb vo s h)
      (fun w => Rd w (keys (runHp xb regs vb vo s h)) vo os.length (os.flatMap encO))
      (fun v B => match stepO o i s with
        | none => v = shut [.bool false] ∧ B = runHp xb regs vb vo s h
        | some s' => ∃ h', RunG s' h' ∧ v = shut [.bool true] ∧ B = runHp xb regs vb vo s' h') := by
  refine Ctr.enter Try.func63 Try.ntmps63 rfl rfl (fun w hr => ?_)
  have s2 := hr.1
  have hlt : i < os.length := (List.getElem?_eq_some_iff.1 ho).1
  have o2 := hr.2 (by omega)
  obtain ⟨ha0, hal⟩ := flat_at encO_len ho
  have ha := ha0.trans (encO_ex o)
  have gr := hg.r
  obtain ⟨rv, hrv⟩ : ∃ rv, osV s.r.length h.ry = rv := ⟨_, rfl⟩
  obtain ⟨bv, hbv⟩ : ∃ bv, osV s.bufs.length h.y = bv := ⟨_, rfl⟩
  obtain ⟨lv, hlv⟩ : ∃ lv, osV s.l.length h.ly = lv := ⟨_, rfl⟩
  have hHp : runHp xb regs vb vo s h = (xb, ob [.int .i64 regs, vb, vo, rv, bv, lv] 88) :: (osC 37 h.ry [] ++ (osC 47 h.y [] ++ (rowsHp h.ys ++ osC 55 h.ly []))) := by
    unfold runHp runC; rw [hrv, hbv, hlv]
  rw [hHp] at o2 ⊢
  repeat' (first | refine C.seq ?_ | refine C.region ?_ | refine L.nil ?_ | refine D.seq ?_ | refine L.move (k := ?_) | refine L.assign (k := ?_) | refine L.fieldAddr (c := ?_) | refine L.load1 0 (c := ?_) | refine L.storeV 0 (c := ?_) | refine L.alloc (c := fun _ => ?_) | refine L.nilCheck (k := ?_) | refine L.indexR s2 hlt (c := ?_) | refine L.loadOA o2 (i := i * 8) (ho := rfl) (hi := hal) (hcs := ha) (c := ?_))
  rename_i ob1
  have kA := fun (k : Int) (hk : k < s.r.length) => at12_S xb regs vb vo rv bv lv s.r k hk
  have pA : ∀ (X : Hp) (w0 : World) (A0 : List Nat) (w : World), At w0 A0 (X ++ ((xb, ob [.int .i64 regs, vb, vo, rv, bv, lv] 88) :: (osC 37 h.ry [] ++ (osC 47 h.y [] ++ (rowsHp h.ys ++ osC 55 h.ly []))))) w → Old w [] xb 0 [.int .i64 regs, vb, vo, rv, bv, lv] ∧ Rd w [] rv s.r.length (s.r.map u64) := fun X w0 A0 w hw =>
    ⟨Old.own (hw.holds _ (List.mem_append_right _ List.mem_cons_self)) (by simp) 6 rfl, hrv ▸ gr.rdm (T := 37) hw (fun x hx => by simp [hx])⟩
  have er : ∀ k, k ∈ [o.a, o.b, o.c] → k < s.r.length := fun k hk => by
    rcases Int.lt_or_le k 0 with h0 | h0
    · omega
    · have := rf_takes hf k (by rw [takes_filter hf]; exact List.mem_filter.2 ⟨hk, cm_ge h0⟩)
      omega
  have ea : o.a < s.r.length := er _ (by simp)
  have eb : o.b < s.r.length := er _ (by simp)
  have ec : o.c < s.r.length := er _ (by simp)
  have em : ∀ k, k ∈ [o.d, o.e] → 0 ≤ k → k < s.r.length := fun k hk h0 => by
    have := rf_makes hf k (by rw [makes_filter hf]; exact List.mem_filter.2 ⟨hk, cm_ge h0⟩)
    omega
  have hsh8 : cm .eql o.k 8 = true → arOk .shl .u64 .u64 o.imm = true := fun hk => by have := shift_imm hf (by rw [hk]; rfl); simp [arOk]; omega
  have hsh9 : cm .eql o.k 9 = true → arOk .shr .u64 .u64 o.imm = true := fun hk => by have := shift_imm hf (by rw [hk, Bool.or_true]); simp [arOk]; omega
  refine C.quiet (h := ?_)
  repeat' (first | refine SL.C.join (x := .seq (.region 5 _ _) _) (doG o i s) (fun z => doE xb i ob1 z.1) (fun z => opB ob1 o :: runHp xb regs vb vo z.2.1 z.2.2) ?_ ?_ | refine C.seq ?_ | refine C.region ?_ | refine L.nil ?_ | refine D.seq ?_ | refine L.move (k := ?_) | refine L.assign (k := ?_) | refine L.cm (c := ?_) | refine L.ar (c := ?_) | refine L.fieldAddr (c := ?_) | refine L.load1 0 (c := ?_) | refine C.block ?_ | exact D.endsQ | refine QL.fin ?_ | (refine QL.step (v := ?_) (by exact rfl) (by exact rfl) ?_ ?_; rotate_left) | refine L.callQ (kA o.a ea) (hpre := fun w hw => pA [_] _ _ w hw) (k := ?_) | refine L.callQ (kA o.b eb) (hpre := fun w hw => pA [_] _ _ w hw) (k := ?_) | refine L.callQ (kA o.c ec) (hpre := fun w hw => pA [_] _ _ w hw) (k := ?_))
  case refine_3.refine_2 =>
    clear hHp pA kA o2 hrv hbv hlv gr hg
    rintro ⟨⟨x, y, pl⟩, s3, h3⟩ ⟨hg3, hr3, hb3, hl3, hst⟩
    simp only at hg3 hr3 hb3 hl3 hst ⊢
    refine SL.C.join (x := .seq (.region 45 _ _) _) (fun z : RS × HG => RunG z.1 z.2 ∧ z.1 = ⟨putR s3.r o.d x, s3.bufs, s3.l⟩) (fun _ => doE xb i ob1 (x, y, pl)) (fun z => opB ob1 o :: runHp xb regs vb vo z.1 z.2) ?_ ?_
    · cases hd : cm .geq o.d 0 with
      | false =>
        have hput : putR s3.r o.d x = s3.r := by unfold putR; rw [hd]; rfl
        unfold opB doE
        repeat' (first | refine C.seq ?_ | refine C.region ?_ | refine L.nil ?_ | refine D.seq ?_ | refine L.cm (c := ?_) | refine L.fieldAddr (c := ?_) | refine L.load1 0 (c := ?_) | refine C.no (h1 := ?_) | refine C.skip ?_)
        exact D.then_ fun a1 w1 hs => ⟨(s3, h3), ⟨hg3, by rw [hput]⟩, hs.lessE rfl (lk_cons rfl (lk_cons rfl (lk_cons rfl (lk_cons rfl (lk_cons rfl (lk_cons rfl (fun _ _ h => lk_nil h)))))))⟩
      | true =>
        have hd0 : 0 ≤ o.d := by simpa [cm] using hd
        have hdl := em o.d (by simp) hd0
        have hdi : o.d = (o.d.toNat : Int) := by omega
        have hdk : o.d.toNat < s3.r.length := by omega
        have gr := hg3.r
        obtain ⟨rv, hrv⟩ : ∃ rv, osV s3.r.length h3.ry = rv := ⟨_, rfl⟩
        obtain ⟨bv, hbv⟩ : ∃ bv, osV s3.bufs.length h3.y = bv := ⟨_, rfl⟩
        obtain ⟨lv, hlv⟩ : ∃ lv, osV s3.l.length h3.ly = lv := ⟨_, rfl⟩
        have hC : runC regs vb vo s3 h3 = [.int .i64 regs, vb, vo, rv, bv, lv] := by unfold runC; rw [hrv, hbv, hlv]
        have hsl := gr.sl
        rw [hrv] at hsl
        unfold doE
        rw [runHp_eq xb regs vb vo s3 h3 hC]
        unfold opB
        repeat' (first | refine C.make ((xb, ob [.int .i64 regs, vb, vo, rv, bv, lv] 88) :: opB ob1 o :: (osC 47 h3.y [] ++ (rowsHp h3.ys ++ osC 55 h3.ly []))) (by kernel_rfl) (h := ?_) | refine C.seq ?_ | refine C.region ?_ | refine L.nil ?_ | refine D.seq ?_ | refine L.cm (c := ?_) | refine L.fieldAddr (c := ?_) | refine L.load1 0 (c := ?_) | refine C.yes (h1 := ?_))
        unfold opB
        iterate 8 ((refine QP.quiet (v := ?_) (by exact rfl) (by exact rfl) (fun w1 g1 => ?_) ?_; rotate_left); repeat (first | refine L.nil ?_ | refine L.move (k := ?_) | refine L.fieldAddr (c := ?_) | refine L.load1 0 (c := ?_) | refine L.load1 1 (c := ?_) | refine L.nilCheck (k := ?_) | exact D.endsQ | refine L.indexR hsl hdk (hi := hdi) (c := ?_)))
        refine QP.mk0 (osC 37 h3.ry []) (fun F B => F = [] ∧ B = osC 37 (osSet h3.ry (o.d.toNat * 1 + 0) (.int .u64 x)) []) (h := fun w1 g1 => ?_) (k := ?_)
        · refine L.setU [] (i := o.d.toNat) (j := 0) gr (by rw [List.nil_append]; exact (osC_app _ _ _).symm) hrv hdk (by decide) (c := fun hG' hv' => ?_)
          refine L.nil ?_
          exact D.endsP0 [] (osC 37 (osSet h3.ry (o.d.toNat * 1 + 0) (.int .u64 x)) []) (hM := by rw [List.nil_append]; exact (osC_app _ _ _)) (hF := fun _ _ h => by cases h) (hR := ⟨rfl, rfl⟩)
        refine QP.fin1 [none, none, none, none, none, none, none, none, some []] 8 (nds := [[], [], [], [], [], [], [], [], []]) (hM := ?_) (k := ?_)
        · refine ((perm_two (osC 37 h3.ry []) _ _ _).symm).trans (List.Perm.of_eq ?_)
          show _ = (osC 37 h3.ry [] ++ []) ++ _
          rw [List.append_nil]
        rintro F B ⟨rfl, rfl⟩
        rw [List.nil_append]
        refine D.perm (M' := opB ob1 o :: runHp xb regs vb vo ⟨putR s3.r o.d x, s3.bufs, s3.l⟩ { h3 with ry := osSet h3.ry (o.d.toNat * 1 + 0) (.int .u64 x) }) ?_ ?_
        · rw [runHp_eq xb regs vb vo _ _ ((runC_put regs vb vo s3 h3 _ _ _ _).trans hC)]
          exact (perm_two _ _ _ _).symm
        repeat' (first | fail)
        exact D.then_ fun a1 w1 hs => ⟨(⟨putR s3.r o.d x, s3.bufs, s3.l⟩, { h3 with ry := osSet h3.ry (o.d.toNat * 1 + 0) (.int .u64 x) }), ⟨hg3.put hd0, rfl⟩, hs.lessE rfl (lk_cons rfl (lk_cons rfl (lk_cons rfl (lk_cons rfl (lk_cons rfl (lk_cons rfl (fun _ _ h => lk_nil h)))))))⟩
    rintro ⟨s4, h4⟩ ⟨hg4, hs4⟩
    simp only at hg4 hs4 ⊢
    have hr4 : s4.r.length = s.r.length := by rw [hs4]; simp only [putR_len]; exact hr3
    refine SL.C.join (x := .seq (.region 47 _ _) _) (fun z : RS × HG => RunG z.1 z.2 ∧ z.1 = ⟨putR s4.r o.e y, s4.bufs, s4.l⟩) (fun _ => doE xb i ob1 (x, y, pl)) (fun z => opB ob1 o :: runHp xb regs vb vo z.1 z.2) ?_ ?_
    · cases hd : cm .geq o.e 0 with
      | false =>
        have hput : putR s4.r o.e y = s4.r := by unfold putR; rw [hd]; rfl
        unfold opB doE
        repeat' (first | refine C.seq ?_ | refine C.region ?_ | refine L.nil ?_ | refine D.seq ?_ | refine L.cm (c := ?_) | refine L.fieldAddr (c := ?_) | refine L.load1 0 (c := ?_) | refine C.no (h1 := ?_) | refine C.skip ?_)
        exact D.then_ fun a1 w1 hs => ⟨(s4, h4), ⟨hg4, by rw [hput]⟩, hs.lessE rfl (lk_cons rfl (lk_cons rfl (lk_cons rfl (lk_cons rfl (lk_cons rfl (lk_cons rfl (fun _ _ h => lk_nil h)))))))⟩
      | true =>
        have hd0 : 0 ≤ o.e := by simpa [cm] using hd
        have hdl := em o.e (by simp) hd0
        have hdi : o.e = (o.e.toNat : Int) := by omega
        have hdk : o.e.toNat < s4.r.length := by omega
        have gr := hg4.r
        obtain ⟨rv, hrv⟩ : ∃ rv, osV s4.r.length h4.ry = rv := ⟨_, rfl⟩
        obtain ⟨bv, hbv⟩ : ∃ bv, osV s4.bufs.length h4.y = bv := ⟨_, rfl⟩
        obtain ⟨lv, hlv⟩ : ∃ lv, osV s4.l.length h4.ly = lv := ⟨_, rfl⟩
        have hC : runC regs vb vo s4 h4 = [.int .i64 regs, vb, vo, rv, bv, lv] := by unfold runC; rw [hrv, hbv, hlv]
        have hsl := gr.sl
        rw [hrv] at hsl
        unfold doE
        rw [runHp_eq xb regs vb vo s4 h4 hC]
        unfold opB
        repeat' (first | refine C.make ((xb, ob [.int .i64 regs, vb, vo, rv, bv, lv] 88) :: opB ob1 o :: (osC 47 h4.y [] ++ (rowsHp h4.ys ++ osC 55 h4.ly []))) (by kernel_rfl) (h := ?_) | refine C.seq ?_ | refine C.region ?_ | refine L.nil ?_ | refine D.seq ?_ | refine L.cm (c := ?_) | refine L.fieldAddr (c := ?_) | refine L.load1 0 (c := ?_) | refine C.yes (h1 := ?_))
        unfold opB
        iterate 8 ((refine QP.quiet (v := ?_) (by exact rfl) (by exact rfl) (fun w1 g1 => ?_) ?_; rotate_left); repeat (first | refine L.nil ?_ | refine L.move (k := ?_) | refine L.fieldAddr (c := ?_) | refine L.load1 0 (c := ?_) | refine L.load1 1 (c := ?_) | refine L.nilCheck (k := ?_) | exact D.endsQ | refine L.indexR hsl hdk (hi := hdi) (c := ?_)))
        refine QP.mk0 (osC 37 h4.ry []) (fun F B => F = [] ∧ B = osC 37 (osSet h4.ry (o.e.toNat * 1 + 0) (.int .u64 y)) []) (h := fun w1 g1 => ?_) (k := ?_)
        · refine L.setU [] (i := o.e.toNat) (j := 0) gr (by rw [List.nil_append]; exact (osC_app _ _ _).symm) hrv hdk (by decide) (c := fun hG' hv' => ?_)
          refine L.nil ?_
          exact D.endsP0 [] (osC 37 (osSet h4.ry (o.e.toNat * 1 + 0) (.int .u64 y)) []) (hM := by rw [List.nil_append]; exact (osC_app _ _ _)) (hF := fun _ _ h => by cases h) (hR := ⟨rfl, rfl⟩)
        refine QP.fin1 [none, none, none, none, none, none, none, none, some []] 8 (nds := [[], [], [], [], [], [], [], [], []]) (hM := ?_) (k := ?_)
        · refine ((perm_two (osC 37 h4.ry []) _ _ _).symm).trans (List.Perm.of_eq ?_)
          show _ = (osC 37 h4.ry [] ++ []) ++ _
          rw [List.append_nil]
        rintro F B ⟨rfl, rfl⟩
        rw [List.nil_append]
        refine D.perm (M' := opB ob1 o :: runHp xb regs vb vo ⟨putR s4.r o.e y, s4.bufs, s4.l⟩ { h4 with ry := osSet h4.ry (o.e.toNat * 1 + 0) (.int .u64 y) }) ?_ ?_
        · rw [runHp_eq xb regs vb vo _ _ ((runC_put regs vb vo s4 h4 _ _ _ _).trans hC)]
          exact (perm_two _ _ _ _).symm
        repeat' (first | fail)
        exact D.then_ fun a1 w1 hs => ⟨(⟨putR s4.r o.e y, s4.bufs, s4.l⟩, { h4 with ry := osSet h4.ry (o.e.toNat * 1 + 0) (.int .u64 y) }), ⟨hg4.put hd0, rfl⟩, hs.lessE rfl (lk_cons rfl (lk_cons rfl (lk_cons rfl (lk_cons rfl (lk_cons rfl (lk_cons rfl (fun _ _ h => lk_nil h)))))))⟩
    rintro ⟨s5, h5⟩ ⟨hg5, hs5⟩
    simp only at hg5 hs5 ⊢
    have gl := hg5.l
    have hll : s5.l.length ≤ 16777216 := by rw [hs5, hs4, hl3]; exact hl
    obtain ⟨rv, hrv⟩ : ∃ rv, osV s5.r.length h5.ry = rv := ⟨_, rfl⟩
    obtain ⟨bv, hbv⟩ : ∃ bv, osV s5.bufs.length h5.y = bv := ⟨_, rfl⟩
    obtain ⟨lv, hlv⟩ : ∃ lv, osV s5.l.length h5.ly = lv := ⟨_, rfl⟩
    have hC : runC regs vb vo s5 h5 = [.int .i64 regs, vb, vo, rv, bv, lv] := by unfold runC; rw [hrv, hbv, hlv]
    unfold doE
    rw [runHp_eq xb regs vb vo s5 h5 hC]
    unfold opB
    repeat' (first | refine C.seq ?_ | refine C.region ?_ | refine L.move (k := ?_) | refine L.fieldAddr (c := ?_) | refine L.load1 1 (c := ?_) | refine L.build (c := ?_) | refine L.nilCheck (k := ?_) | refine L.buildS (c := fun _ => ?_))
    rename_i nb
    refine L.appendU ((nb, ob [int (i : Int), int pl] 55) :: (ob1, ob [.int .i64 o.k, .int .i64 o.d, .int .i64 o.e, .int .i64 o.a, .int .i64 o.b, .int .i64 o.c, .int .i64 o.buf, .int .u64 o.imm] 39) :: (xb, ob [.int .i64 regs, vb, vo, rv, bv, lv] 88) :: (osC 37 h5.ry [] ++ (osC 47 h5.y [] ++ rowsHp h5.ys))) (L2 := []) (u := .slice (some ⟨nb, 0, none⟩) 1 1) (k := 1) (news := [int (i : Int), int pl]) gl (by simp) (fun w hw => Rd.own (hw.holds _ List.mem_cons_self) (by simp) (Nat.le_refl _) 2 rfl) rfl (by intro u hu; simp at hu; rcases hu with rfl | rfl <;> rfl) (by unfold maxLen; omega) (by omega) (hx := by rw [hlv]; exact rfl) (c := fun y' hG' _ => ?_)
    have h56 : 5 < [(.int .i64 regs : Value), vb, vo, rv, bv, lv].length := by simp
    repeat' (first | refine L.storeK 2 h56 rfl (hc := osV_cells _ _) (h1 := oneB_os _ _) (hM := rfl) (c := ?_) | refine C.seq ?_ | refine C.region ?_ | refine L.nil ?_ | refine D.seq ?_ | refine L.assign (k := ?_) | refine L.fieldAddr (c := ?_) | refine L.nilCheck (k := ?_) | refine C.ret ?_)
    have hs6 : (⟨putR (putR s3.r o.d x) o.e y, s3.bufs, s.l ++ [⟨(i : Int), pl⟩]⟩ : RS) = ⟨s5.r, s5.bufs, s5.l ++ [⟨(i : Int), pl⟩]⟩ := by rw [hs5, hs4, hl3]
    refine D.ret (vs := [_]) (RV.tmp rfl RV.nil) ?_
    intro w' hw
    refine Post.mkD 2 hw rfl ?_
    rw [hst, hs6]
    refine ⟨_, hg5.ev (e := ⟨(i : Int), pl⟩) hG', rfl, ?_⟩
    rw [runHp_eq xb regs vb vo _ _ (cs := [.int .i64 regs, vb, vo, rv, bv, osV (s5.l.length + 1) y']) (by unfold runC; simp only [hrv, hbv, List.length_append, List.length_singleton])]
    simp
    rfl
  repeat' (first | refine C.yesH (h1 := ?_) | refine C.noH (h1 := ?_) | (refine C.condE (h1 := fun hc => ?_) (h2 := fun hc => ?_)) | refine C.seq ?_ | refine C.region ?_ | refine L.nil ?_ | refine D.seq ?_ | refine L.move (k := ?_) | refine L.assign (k := ?_) | refine L.cm (c := ?_) | refine L.ar (c := ?_) | refine L.fieldAddr (c := ?_) | refine L.load1 0 (c := ?_) | refine L.extract (c := ?_) | refine D.blkNormal ?_ | refine C.skip ?_ | refine L.callQ (mul01_S _ _) (k := ?_) | refine L.callQ (add01_S _ _ _) (k := ?_) | refine L.callQ (sub01_S _ _ _) (k := ?_) | refine L.callQ (bit12_S _) (k := ?_) | refine L.ar (op := .shl) (ho := hsh8 (by assumption)) (c := ?_) | refine L.ar (op := .shr) (ho := hsh9 (by assumption)) (c := ?_))
  all_goals (try (exact absurd hc (by decide)))
  all_goals (try (first | (have hk : o.k = 1 := cm_yes' (by assumption); refine do_leaf s h (by rw [hHp]; rfl) (lk_cons rfl (lk_cons rfl (lk_cons rfl (lk_cons rfl (lk_cons rfl (lk_cons rfl (fun _ _ h => lk_nil h))))))) ⟨hg, rfl, rfl, rfl, ?_⟩; unfold stepO makeV; simp only [hk]; rfl) | (have hk : o.k = 2 := cm_yes' (by assumption); refine do_leaf s h (by rw [hHp]; rfl) (lk_cons rfl (lk_cons rfl (lk_cons rfl (lk_cons rfl (lk_cons rfl (lk_cons rfl (fun _ _ h => lk_nil h))))))) ⟨hg, rfl, rfl, rfl, ?_⟩; unfold stepO makeV; simp only [hk]; rfl) | (have hk : o.k = 3 := cm_yes' (by assumption); refine do_leaf s h (by rw [hHp]; rfl) (lk_cons rfl (lk_cons rfl (lk_cons rfl (lk_cons rfl (lk_cons rfl (lk_cons rfl (fun _ _ h => lk_nil h))))))) ⟨hg, rfl, rfl, rfl, ?_⟩; unfold stepO makeV; simp only [hk]; rfl) | (have hk : o.k = 4 := cm_yes' (by assumption); refine do_leaf s h (by rw [hHp]; rfl) (lk_cons rfl (lk_cons rfl (lk_cons rfl (lk_cons rfl (lk_cons rfl (lk_cons rfl (fun _ _ h => lk_nil h))))))) ⟨hg, rfl, rfl, rfl, ?_⟩; unfold stepO makeV; simp only [hk]; rfl) | (have hk : o.k = 5 := cm_yes' (by assumption); refine do_leaf s h (by rw [hHp]; rfl) (lk_cons rfl (lk_cons rfl (lk_cons rfl (lk_cons rfl (lk_cons rfl (lk_cons rfl (fun _ _ h => lk_nil h))))))) ⟨hg, rfl, rfl, rfl, ?_⟩; unfold stepO makeV; simp only [hk]; rfl) | (have hk : o.k = 6 := cm_yes' (by assumption); refine do_leaf s h (by rw [hHp]; rfl) (lk_cons rfl (lk_cons rfl (lk_cons rfl (lk_cons rfl (lk_cons rfl (lk_cons rfl (fun _ _ h => lk_nil h))))))) ⟨hg, rfl, rfl, rfl, ?_⟩; unfold stepO makeV; simp only [hk]; rfl) | (have hk : o.k = 7 := cm_yes' (by assumption); refine do_leaf s h (by rw [hHp]; rfl) (lk_cons rfl (lk_cons rfl (lk_cons rfl (lk_cons rfl (lk_cons rfl (lk_cons rfl (fun _ _ h => lk_nil h))))))) ⟨hg, rfl, rfl, rfl, ?_⟩; unfold stepO makeV; simp only [hk]; rfl) | (have hk : o.k = 8 := cm_yes' (by assumption); refine do_leaf s h (by rw [hHp]; rfl) (lk_cons rfl (lk_cons rfl (lk_cons rfl (lk_cons rfl (lk_cons rfl (lk_cons rfl (fun _ _ h => lk_nil h))))))) ⟨hg, rfl, rfl, rfl, ?_⟩; unfold stepO makeV; simp only [hk]; rfl) | (have hk : o.k = 9 := cm_yes' (by assumption); refine do_leaf s h (by rw [hHp]; rfl) (lk_cons rfl (lk_cons rfl (lk_cons rfl (lk_cons rfl (lk_cons rfl (lk_cons rfl (fun _ _ h => lk_nil h))))))) ⟨hg, rfl, rfl, rfl, ?_⟩; unfold stepO makeV; simp only [hk]; rfl) | (have hk : o.k = 10 := cm_yes' (by assumption); refine do_leaf s h (by rw [hHp]; rfl) (lk_cons rfl (lk_cons rfl (lk_cons rfl (lk_cons rfl (lk_cons rfl (lk_cons rfl (fun _ _ h => lk_nil h))))))) ⟨hg, rfl, rfl, rfl, ?_⟩; unfold stepO makeV; simp only [hk]; rfl) | (have hk : o.k = 11 := cm_yes' (by assumption); refine do_leaf s h (by rw [hHp]; rfl) (lk_cons rfl (lk_cons rfl (lk_cons rfl (lk_cons rfl (lk_cons rfl (lk_cons rfl (fun _ _ h => lk_nil h))))))) ⟨hg, rfl, rfl, rfl, ?_⟩; unfold stepO makeV; simp only [hk]; rfl) | (have hk : o.k = 12 := cm_yes' (by assumption); refine do_leaf s h (by rw [hHp]; rfl) (lk_cons rfl (lk_cons rfl (lk_cons rfl (lk_cons rfl (lk_cons rfl (lk_cons rfl (fun _ _ h => lk_nil h))))))) ⟨hg, rfl, rfl, rfl, ?_⟩; unfold stepO makeV; simp only [hk]; rfl) | (have hk : o.k = 13 := cm_yes' (by assumption); refine do_leaf s h (by rw [hHp]; rfl) (lk_cons rfl (lk_cons rfl (lk_cons rfl (lk_cons rfl (lk_cons rfl (lk_cons rfl (fun _ _ h => lk_nil h))))))) ⟨hg, rfl, rfl, rfl, ?_⟩; unfold stepO makeV; simp only [hk, hc]; rfl) | (refine do_leaf s h (by rw [hHp]; rfl) (lk_cons rfl (lk_cons rfl (lk_cons rfl (lk_cons rfl (lk_cons rfl (lk_cons rfl (fun _ _ h => lk_nil h))))))) ⟨hg, rfl, rfl, rfl, ?_⟩; unfold stepO makeV; simp only [*]; rfl)))
  all_goals (
    have hm : (cm .eql o.k 14 || cm .eql o.k 15) = true := by first | (rw [show cm .eql o.k 14 = true by assumption]; rfl) | (rw [show cm .eql o.k 15 = true by assumption, Bool.or_true])
    obtain ⟨hb0, hb1, hoe, hd15⟩ := mem_fields hf hm
    have hbi : o.buf = (o.buf.toNat : Int) := by omega
    have hbk : o.buf.toNat < s.bufs.length := by omega
    obtain ⟨row, hrow⟩ : ∃ row, s.bufs[o.buf.toNat]? = some row := ⟨_, List.getElem?_eq_getElem hbk⟩
    obtain ⟨yk, hyk⟩ : ∃ yk, h.ys[o.buf.toNat]? = some yk := ⟨_, List.getElem?_eq_getElem (by rw [hg.b.1]; exact hbk)⟩
    have hGr := hg.b.2 _ row yk hrow hyk
    have hle := hGr.le
    have hcell := rowsV_at hrow hyk
    obtain ⟨rwv, hrwv⟩ : ∃ v, osV row.length yk = v := ⟨_, rfl⟩
    rw [hrwv] at hcell
    have hbuf : bufAt s o.buf = row := by unfold bufAt; rw [hrow]; rfl
    have hsr := hGr.sl
    rw [hrwv] at hsr
    have gy := hg.y
    have hsy := gy.sl
    rw [hbv] at hsy
    have hcv : IntKind.u64.wrap (row.length : Int) = row.length := u64_wrap (by unfold maxLen at hle; omega)
    have hn0 : 0 ≤ ar .add .u64 o.imm (rAt s.r o.a) := ar_u64 _ _
    have hMy : ((ob1, ob [.int .i64 o.k, .int .i64 o.d, .int .i64 o.e, .int .i64 o.a, .int .i64 o.b, .int .i64 o.c, .int .i64 o.buf, .int .u64 o.imm] 39) :: (xb, ob [.int .i64 regs, vb, vo, rv, bv, lv] 88) :: (osC 37 h.ry [] ++ (osC 47 h.y [] ++ (rowsHp h.ys ++ osC 55 h.ly [])))) = ((ob1, ob [.int .i64 o.k, .int .i64 o.d, .int .i64 o.e, .int .i64 o.a, .int .i64 o.b, .int .i64 o.c, .int .i64 o.buf, .int .u64 o.imm] 39) :: (xb, ob [.int .i64 regs, vb, vo, rv, bv, lv] 88) :: osC 37 h.ry []) ++ osC 47 h.y (rowsHp h.ys ++ osC 55 h.ly []) := by
      rw [osC_app 47 h.y (rowsHp h.ys ++ osC 55 h.ly [])]; rfl
    repeat' (first | refine C.quiet (h := ?_) | refine L.convI (hz := hcv) (c := ?_) | refine L.nil ?_ | refine D.seq ?_ | refine L.move (k := ?_) | refine L.cm (c := ?_) | refine L.fieldAddr (c := ?_) | refine L.load1 0 (c := ?_) | refine L.load1 1 (c := ?_) | refine L.nilCheck (k := ?_) | exact D.endsQ | refine QL.fin ?_ | (refine QL.step (v := ?_) (by exact rfl) (by exact rfl) ?_ ?_; rotate_left) | refine L.loadW ((ob1, ob [.int .i64 o.k, .int .i64 o.d, .int .i64 o.e, .int .i64 o.a, .int .i64 o.b, .int .i64 o.c, .int .i64 o.buf, .int .u64 o.imm] 39) :: (xb, ob [.int .i64 regs, vb, vo, rv, bv, lv] 88) :: osC 37 h.ry []) (L2 := rowsHp h.ys ++ osC 55 h.ly []) (j := 0) gy hMy hbv hbk (by decide) hcell (c := ?_) | refine L.indexR hsy hbk (hi := hbi) (c := ?_) | refine L.lenR hsr (c := ?_))
    obtain ⟨n, hn⟩ : ∃ n, ar .add .u64 o.imm (rAt s.r o.a) = n := ⟨_, rfl⟩
    rw [hn] at hn0
    simp only [hn]
    refine C.condE (h1 := fun hc2 => ?_) (h2 := fun hc2 => ?_)
    · repeat' (first | refine C.seq ?_ | refine C.region ?_ | refine L.nil ?_ | refine D.seq ?_ | refine L.assign (k := ?_) | refine C.ret ?_ | refine D.thenRet ?_ | refine D.blkRet ?_)
      refine D.ret (vs := [_]) (RV.tmp rfl RV.nil) ?_
      intro w' hw
      refine Post.mkD 1 hw rfl ?_
      have hst : stepO o i s = none := by unfold stepO; rw [if_pos hm, hbuf, hn, if_pos hc2]
      rw [hst]
      exact ⟨rfl, rfl⟩
    have hnl : n < row.length := by simpa [cm] using hc2
    have hni : n = (n.toNat : Int) := by omega
    have hnk : n.toNat < row.length := by omega
    have hcw : IntKind.i64.wrap n = n := wrap_63 (by unfold maxLen at hle; omega)
    obtain ⟨v, hv⟩ : ∃ v, row[n.toNat]? = some v := ⟨_, List.getElem?_eq_getElem hnk⟩
    have hvc : (row.map u64)[n.toNat * 1 + 0]? = some (.int .u64 v) := enc_at (enc := u64) hv
    have hMr : ((ob1, ob [.int .i64 o.k, .int .i64 o.d, .int .i64 o.e, .int .i64 o.a, .int .i64 o.b, .int .i64 o.c, .int .i64 o.buf, .int .u64 o.imm] 39) :: (xb, ob [.int .i64 regs, vb, vo, rv, bv, lv] 88) :: (osC 37 h.ry [] ++ (osC 47 h.y [] ++ (rowsHp h.ys ++ osC 55 h.ly [])))) = ((ob1, ob [.int .i64 o.k, .int .i64 o.d, .int .i64 o.e, .int .i64 o.a, .int .i64 o.b, .int .i64 o.c, .int .i64 o.buf, .int .u64 o.imm] 39) :: (xb, ob [.int .i64 regs, vb, vo, rv, bv, lv] 88) :: (osC 37 h.ry [] ++ (osC 47 h.y [] ++ rowsHp (h.ys.take o.buf.toNat)))) ++ osC 37 yk (rowsHp (h.ys.drop (o.buf.toNat + 1)) ++ osC 55 h.ly []) := by
      rw [rows_cut hyk, osC_app 37 yk (rowsHp (h.ys.drop (o.buf.toNat + 1)) ++ osC 55 h.ly [])]; simp only [List.append_assoc, List.cons_append]
    have hM0 : ((ob1, ob [.int .i64 o.k, .int .i64 o.d, .int .i64 o.e, .int .i64 o.a, .int .i64 o.b, .int .i64 o.c, .int .i64 o.buf, .int .u64 o.imm] 39) :: (xb, ob [.int .i64 regs, vb, vo, rv, bv, lv] 88) :: (osC 37 h.ry [] ++ (osC 47 h.y [] ++ (rowsHp (h.ys.take o.buf.toNat) ++ (rowsHp (h.ys.drop (o.buf.toNat + 1)) ++ osC 55 h.ly []))))) = ((ob1, ob [.int .i64 o.k, .int .i64 o.d, .int .i64 o.e, .int .i64 o.a, .int .i64 o.b, .int .i64 o.c, .int .i64 o.buf, .int .u64 o.imm] 39) :: (xb, ob [.int .i64 regs, vb, vo, rv, bv, lv] 88) :: osC 37 h.ry []) ++ osC 47 h.y (rowsHp (h.ys.take o.buf.toNat) ++ (rowsHp (h.ys.drop (o.buf.toNat + 1)) ++ osC 55 h.ly [])) := by
      rw [osC_app 47 h.y (rowsHp (h.ys.take o.buf.toNat) ++ (rowsHp (h.ys.drop (o.buf.toNat + 1)) ++ osC 55 h.ly []))]; rfl
    have hC0 : runC regs vb vo s h = [.int .i64 regs, vb, vo, rv, bv, lv] := by unfold runC; rw [hrv, hbv, hlv]
    cases hk15 : cm .eql o.k 15 with
    | false =>
      repeat' (first | refine L.convI (hz := hcw) (c := ?_) | refine C.seq ?_ | refine C.region ?_ | refine L.nil ?_ | refine D.seq ?_ | refine L.move (k := ?_) | refine L.assign (k := ?_) | refine L.cm (c := ?_) | refine L.fieldAddr (c := ?_) | refine L.load1 0 (c := ?_) | refine L.load1 1 (c := ?_) | refine L.nilCheck (k := ?_) | refine C.no (h1 := ?_) | refine D.blkNormal ?_ | refine C.skip ?_ | refine D.seqR (h := ?_) | exact D.endsQ | refine QL.fin ?_ | (refine QL.step (v := ?_) (by exact rfl) (by exact rfl) ?_ ?_; rotate_left) | refine C.quiet (h := ?_) | refine L.loadW ((ob1, ob [.int .i64 o.k, .int .i64 o.d, .int .i64 o.e, .int .i64 o.a, .int .i64 o.b, .int .i64 o.c, .int .i64 o.buf, .int .u64 o.imm] 39) :: (xb, ob [.int .i64 regs, vb, vo, rv, bv, lv] 88) :: osC 37 h.ry []) (L2 := rowsHp h.ys ++ osC 55 h.ly []) (j := 0) gy hMy hbv hbk (by decide) hcell (c := ?_) | refine L.indexR hsy hbk (hi := hbi) (c := ?_) | refine L.indexR hsr hnk (hi := hni) (c := ?_) | refine L.loadW ((ob1, ob [.int .i64 o.k, .int .i64 o.d, .int .i64 o.e, .int .i64 o.a, .int .i64 o.b, .int .i64 o.c, .int .i64 o.buf, .int .u64 o.imm] 39) :: (xb, ob [.int .i64 regs, vb, vo, rv, bv, lv] 88) :: (osC 37 h.ry [] ++ (osC 47 h.y [] ++ rowsHp (h.ys.take o.buf.toNat)))) (L2 := rowsHp (h.ys.drop (o.buf.toNat + 1)) ++ osC 55 h.ly []) (j := 0) hGr hMr hrwv hnk (by decide) hvc (c := ?_))
      refine do_leaf s h (by rw [hHp]; rfl) (lk_cons rfl (lk_cons rfl (lk_cons rfl (lk_cons rfl (lk_cons rfl (lk_cons rfl (fun _ _ h => lk_nil h))))))) ⟨hg, rfl, rfl, rfl, ?_⟩
      have hv2 : (row[n.toNat]?).getD 0 = v := by rw [hv]; rfl
      unfold stepO; rw [if_pos hm, hbuf, hn, if_neg (by rw [hc2]; simp), hk15, if_neg (by simp), if_neg (by simp), hv2, hoe, putR_no (k := -1) (by decide)]
    | true =>
      repeat' (first | refine C.make ((ob1, ob [.int .i64 o.k, .int .i64 o.d, .int .i64 o.e, .int .i64 o.a, .int .i64 o.b, .int .i64 o.c, .int .i64 o.buf, .int .u64 o.imm] 39) :: (xb, ob [.int .i64 regs, vb, vo, rv, bv, lv] 88) :: (osC 37 h.ry [] ++ (osC 47 h.y [] ++ (rowsHp (h.ys.take o.buf.toNat) ++ (rowsHp (h.ys.drop (o.buf.toNat + 1)) ++ osC 55 h.ly []))))) (by kernel_rfl) (h := ?_) | refine L.convI (hz := hcw) (c := ?_) | refine C.seq ?_ | refine C.region ?_ | refine L.nil ?_ | refine D.seq ?_ | refine L.move (k := ?_) | refine L.assign (k := ?_) | refine L.cm (c := ?_) | refine L.fieldAddr (c := ?_) | refine L.load1 0 (c := ?_) | refine C.yes (h1 := ?_) | refine C.skip ?_ | refine D.seqR (h := ?_) | refine C.quiet (h := ?_) | refine L.loadW ((ob1, ob [.int .i64 o.k, .int .i64 o.d, .int .i64 o.e, .int .i64 o.a, .int .i64 o.b, .int .i64 o.c, .int .i64 o.buf, .int .u64 o.imm] 39) :: (xb, ob [.int .i64 regs, vb, vo, rv, bv, lv] 88) :: osC 37 h.ry []) (L2 := rowsHp h.ys ++ osC 55 h.ly []) (j := 0) gy hMy hbv hbk (by decide) hcell (c := ?_) | refine L.indexR hsy hbk (hi := hbi) (c := ?_) | refine L.indexR hsr hnk (hi := hni) (c := ?_) | refine L.loadW ((ob1, ob [.int .i64 o.k, .int .i64 o.d, .int .i64 o.e, .int .i64 o.a, .int .i64 o.b, .int .i64 o.c, .int .i64 o.buf, .int .u64 o.imm] 39) :: (xb, ob [.int .i64 regs, vb, vo, rv, bv, lv] 88) :: (osC 37 h.ry [] ++ (osC 47 h.y [] ++ rowsHp (h.ys.take o.buf.toNat)))) (L2 := rowsHp (h.ys.drop (o.buf.toNat + 1)) ++ osC 55 h.ly []) (j := 0) hGr hMr hrwv hnk (by decide) hvc (c := ?_))
      iterate 11 ((refine QP.quiet (v := ?_) (by exact rfl) (by exact rfl) (fun w1 g1 => ?_) ?_; rotate_left); repeat (first | refine L.nil ?_ | refine L.move (k := ?_) | refine L.fieldAddr (c := ?_) | refine L.load1 0 (c := ?_) | refine L.load1 1 (c := ?_) | refine L.nilCheck (k := ?_) | exact D.endsQ | refine L.loadW ((ob1, ob [.int .i64 o.k, .int .i64 o.d, .int .i64 o.e, .int .i64 o.a, .int .i64 o.b, .int .i64 o.c, .int .i64 o.buf, .int .u64 o.imm] 39) :: (xb, ob [.int .i64 regs, vb, vo, rv, bv, lv] 88) :: osC 37 h.ry []) (L2 := rowsHp (h.ys.take o.buf.toNat) ++ (rowsHp (h.ys.drop (o.buf.toNat + 1)) ++ osC 55 h.ly [])) (j := 0) gy hM0 hbv hbk (by decide) hcell (c := ?_) | refine L.indexR hsy hbk (hi := hbi) (c := ?_) | refine L.indexR hsr hnk (hi := hni) (c := ?_)))
      refine QP.mk0 (osC 37 yk []) (fun F B => F = [] ∧ B = osC 37 (osSet yk (n.toNat * 1 + 0) (.int .u64 (rAt s.r o.b))) []) (h := fun w1 g1 => ?_) (k := ?_)
      · refine L.setU [] (i := n.toNat) (j := 0) hGr (by rw [List.nil_append]; exact (osC_app _ _ _).symm) hrwv hnk (by decide) (c := fun hG' hv' => ?_)
        refine L.nil ?_
        exact D.endsP0 [] (osC 37 (osSet yk (n.toNat * 1 + 0) (.int .u64 (rAt s.r o.b))) []) (hM := by rw [List.nil_append]; exact (osC_app _ _ _)) (hF := fun _ _ h => by cases h) (hR := ⟨rfl, rfl⟩)
      refine QP.fin1 [none, none, none, none, none, none, none, none, none, none, none, some []] 11 (nds := [[], [], [], [], [], [], [], [], [], [], [], []]) (hM := ?_) (k := ?_)
      · rw [rows_cut hyk]
        exact perm_by (fun k => match k with | 0 => [(ob1, ob [.int .i64 o.k, .int .i64 o.d, .int .i64 o.e, .int .i64 o.a, .int .i64 o.b, .int .i64 o.c, .int .i64 o.buf, .int .u64 o.imm] 39), (xb, ob [.int .i64 regs, vb, vo, rv, bv, lv] 88)] | 1 => osC 37 h.ry [] | 2 => osC 47 h.y [] | 3 => rowsHp (h.ys.take o.buf.toNat) | 4 => osC 37 yk [] | 5 => rowsHp (h.ys.drop (o.buf.toNat + 1)) | _ => osC 55 h.ly []) [0, 1, 2, 3, 4, 5, 6] [4, 0, 1, 2, 3, 5, 6] (by simp) (by simp [Pl.ini])
      rintro F B ⟨rfl, rfl⟩
      rw [List.nil_append]
      refine D.perm (M' := opB ob1 o :: runHp xb regs vb vo ⟨s.r, s.bufs.set o.buf.toNat (row.set n.toNat (rAt s.r o.b)), s.l⟩ { h with ys := h.ys.set o.buf.toNat (osSet yk (n.toNat * 1 + 0) (.int .u64 (rAt s.r o.b))) }) ?_ ?_
      · rw [runHp_eq xb regs vb vo _ _ ((runC_row regs vb vo s h _ _ (by simp)).trans hC0)]
        show List.Perm (opB ob1 o :: (xb, ob [.int .i64 regs, vb, vo, rv, bv, lv] 88) :: (osC 37 h.ry [] ++ (osC 47 h.y [] ++ (rowsHp (h.ys.set o.buf.toNat (osSet yk (n.toNat * 1 + 0) (.int .u64 (rAt s.r o.b)))) ++ osC 55 h.ly [])))) _
        rw [rows_set hyk]
        exact perm_by (fun k => match k with | 0 => [(ob1, ob [.int .i64 o.k, .int .i64 o.d, .int .i64 o.e, .int .i64 o.a, .int .i64 o.b, .int .i64 o.c, .int .i64 o.buf, .int .u64 o.imm] 39), (xb, ob [.int .i64 regs, vb, vo, rv, bv, lv] 88)] | 1 => osC 37 h.ry [] | 2 => osC 47 h.y [] | 3 => rowsHp (h.ys.take o.buf.toNat) | 4 => osC 37 (osSet yk (n.toNat * 1 + 0) (.int .u64 (rAt s.r o.b))) [] | 5 => rowsHp (h.ys.drop (o.buf.toNat + 1)) | _ => osC 55 h.ly []) [0, 1, 2, 3, 4, 5, 6] [4, 0, 1, 2, 3, 5, 6] (by simp; rfl) (by simp)
      repeat' (first | refine D.blkNormal ?_)
      refine do_leaf ⟨s.r, s.bufs.set o.buf.toNat (row.set n.toNat (rAt s.r o.b)), s.l⟩ { h with ys := h.ys.set o.buf.toNat (osSet yk (n.toNat * 1 + 0) (.int .u64 (rAt s.r o.b))) } rfl (lk_cons rfl (lk_cons rfl (lk_cons rfl (lk_cons rfl (lk_cons rfl (lk_cons rfl (fun _ _ h => lk_nil h))))))) ⟨hg.row hrow hyk, rfl, by simp, rfl, ?_⟩
      have hd1 : o.d = -1 := hd15 (cm_yes' hk15)
      unfold stepO; rw [if_pos hm, hbuf, hn, if_neg (by rw [hc2]; simp), hk15, if_pos rfl, if_pos rfl, hoe, hd1, putR_no (k := -1) (by decide), putR_no (k := -1) (by decide)])
end Go.Proofs.Ytkjlgapkcdcmgaa
