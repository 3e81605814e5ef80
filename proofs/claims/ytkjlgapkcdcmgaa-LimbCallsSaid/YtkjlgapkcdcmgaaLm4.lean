/- limb's do. -/
import Derived.Test.YtkjlgapkcdcmgaaLmA
set_option linter.unusedVariables false
set_option linter.unusedSimpArgs false
namespace Go.Proofs.Ytkjlgapkcdcmgaa
open Go Go.RowKit SL
attribute [local irreducible] SL.L SL.C SL.D SL.N SL.H SL.QL SL.QW SL.QP

theorem has_d {regs : Int} {bs : List Bf} {o : Lop} (h : rfields regs bs o = true) (h15 : o.k ≠ 15) (h17 : o.k ≠ 17) : 0 ≤ o.d ∧ o.d < regs := by
  obtain ⟨h1, h2⟩ := rf_bad h
  have : fieldM regs o.d (cm .neq o.k 15 && cm .neq o.k 17) = true := by
    simp only [rbad, Bool.or_eq_false_iff] at h2
    simpa using h2.1.1.1.1.1
  rw [cm_ne h15, cm_ne h17] at this
  simp [fieldM, cm] at this
  exact this
theorem has_b {regs : Int} {bs : List Bf} {o : Lop} (h : rfields regs bs o = true) (h15 : o.k = 15) : 0 ≤ o.b ∧ o.b < regs := by
  obtain ⟨h1, h2⟩ := rf_bad h
  have h3 : fieldM regs o.b (((cm .geq o.k 3 && cm .leq o.k 7) || (cm .geq o.k 10 && cm .leq o.k 13)) || cm .eql o.k 15) = true := by
    simp only [rbad, Bool.or_eq_false_iff] at h2
    simpa using h2.1.1.2
  rw [cm_yes h15, Bool.or_true] at h3
  simp [fieldM, cm] at h3
  exact h3
theorem abc_lt {regs : Int} {bs : List Bf} {o : Lop} (h : rfields regs bs o = true) (h64 : regs ≤ 64) : o.a < 64 ∧ o.b < 64 ∧ o.c < 64 := by
  have er : ∀ k, k ∈ [o.a, o.b, o.c] → k < 64 := fun k hk => by
    rcases Int.lt_or_le k 0 with h0 | h0
    · omega
    · have := rf_takes h k (by rw [takes_filter h]; exact List.mem_filter.2 ⟨hk, cm_ge h0⟩)
      omega
  exact ⟨er _ (by simp), er _ (by simp), er _ (by simp)⟩
theorem e_lt {regs : Int} {bs : List Bf} {o : Lop} (h : rfields regs bs o = true) (h64 : regs ≤ 64) : o.e < 64 := by
  rcases Int.lt_or_le o.e 0 with h0 | h0
  · omega
  · have := rf_makes h o.e (by rw [makes_filter h]; exact List.mem_filter.2 ⟨by simp, cm_ge h0⟩)
    omega
theorem k_range {regs : Int} {bs : List Bf} {o : Lop} (h : rfields regs bs o = true) : 1 ≤ o.k ∧ o.k ≤ 17 := by
  have := (rf_bad h).1
  simp [cm] at this; omega
theorem rn_hset (Z : Hp) (xb : Nat) (regs : Int) (vb vo ev : Value) {r : List Int} (bv lv : Value) (T k : Nat) (x : Int) (hk : k < r.length) : hset ((xb, ob (rnC regs vb vo ev r bv lv) T) :: Z) 0 (ob ((rnC regs vb vo ev r bv lv).set (4 + k) (.int .u64 x)) T) = (xb, ob (rnC regs vb vo ev (r.set k x) bv lv) T) :: Z := by
  simp only [hset]; rw [rn_set hk]
theorem rn_hset1 (a : Nat × Obj) (Z : Hp) (xb : Nat) (regs : Int) (vb vo ev : Value) {r : List Int} (bv lv : Value) (T : Nat) (v : Value) (h : r.length = 64) : hset (a :: (xb, ob (rnC regs vb vo ev r bv lv) T) :: Z) 1 (ob ((rnC regs vb vo ev r bv lv).set 69 v) T) = a :: (xb, ob (rnC regs vb vo ev r bv v) T) :: Z := by
  simp only [hset]; rw [rn_setL h]
theorem lrHp_eq (xb : Nat) (regs : Int) (vb vo ev : Value) (s : RS) (h : HG) {bv lv : Value} (hb : osV s.bufs.length h.y = bv) (hl : osV s.l.length h.ly = lv) : lrHp xb regs vb vo ev s h = (xb, ob (rnC regs vb vo ev s.r bv lv) 96) :: (osC 47 h.y [] ++ (rowsHp h.ys ++ osC 55 h.ly [])) := by
  unfold lrHp; rw [hb, hl]
set_option maxRecDepth 100000 in
set_option maxHeartbeats 16000000 in
theorem ldo_S (xb : Nat) (regs : Int) (vb vo ev : Value) (bs : List Bf) (os : List Lop) (h64 : regs ≤ 64) (hno : os.length ≤ 65536) (hI : ∀ o ∈ os, W64 o.imm) (hsk : ∀ j, j < os.length → (opAt os j).k = 17 → stkAt os j ≠ []) : ∀ (N : Nat) (p : Pg) (ls : List Int) (i : Nat) (rest : List Lop) (s : RS) (h : HG), p.flat.length ≤ N → p.Safe regs bs ls → os.drop i = p.flat ++ rest → s.bufs.length = bs.length → s.l.length + p.cnt ≤ 16777216 → LRun s h →
    Ctr Try.prog 66 [.pointer (some ⟨xb, 0, none⟩), .int .i64 (i : Int), .int .i64 ((i + p.flat.length : Nat) : Int)] (lrHp xb regs vb vo ev s h)
      (fun w => Rd w (keys (lrHp xb regs vb vo ev s h)) vo os.length (os.flatMap encO) ∧ Rd w (keys (lrHp xb regs vb vo ev s h)) ev os.length ((eRun os os.length).map int))
      (fun v B => ∃ h', LRun (p.exec i s).1 h' ∧ (p.exec i s).1.bufs.length = bs.length ∧ v = shut [.bool (p.exec i s).2] ∧ B = lrHp xb regs vb vo ev (p.exec i s).1 h') := by
  intro N
  induction N using Nat.strongRecOn with
  | _ N ih =>
  intro p ls i rest s h hN hS hd hB hcnt hg
  refine Ctr.enter Try.func66 Try.ntmps66 rfl rfl (fun w hr => ?_)
  repeat' (first | refine C.seq ?_ | refine C.region ?_ | refine L.nil ?_ | refine D.seq ?_ | refine L.assign (k := ?_))
  refine SL.C.scopeL (α := Pg × Nat × RS × HG) 0 (fun z => z.1.exec z.2.1 z.2.2.1 = p.exec i s ∧ LRun z.2.2.1 z.2.2.2 ∧ (∃ ls', z.1.Safe regs bs ls') ∧ (∃ rest', os.drop z.2.1 = z.1.flat ++ rest') ∧ z.2.1 + z.1.flat.length = i + p.flat.length ∧ z.2.2.1.bufs.length = bs.length ∧ z.2.2.1.l.length + z.1.cnt ≤ 16777216 ∧ z.1.flat.length ≤ N)
    (fun z => [(0, .pointer (some ⟨xb, 0, none⟩)), (2, .int .i64 ((i + p.flat.length : Nat) : Int)), (7, .int .i64 (z.2.1 : Int))])
    (fun z => lrHp xb regs vb vo ev z.2.2.1 z.2.2.2) (fun z => z.1.flat.length) (p, i, s, h) ⟨rfl, hg, ⟨ls, hS⟩, ⟨rest, hd⟩, rfl, hB, hcnt, hN⟩ (first := fun Q' hQ => ?_) (pass := ?_)
  · repeat' (first | refine SL.C.from_ hQ (fun a w hs => hs.lessE rfl (lk_cons rfl (lk_cons rfl (lk_cons rfl (fun _ _ h => lk_nil h))))) | refine C.label ?_ | refine C.seq ?_ | refine C.region ?_ | refine L.nil ?_ | refine D.seq ?_ | refine L.move (k := ?_) | refine L.assign (k := ?_))
  clear hg hcnt hB hd hS hN
  rintro ⟨q, j, s1, h1⟩ ⟨hq, g1, ⟨ls1, hS1⟩, ⟨rest1, hd1⟩, hlen, hB1, hc1, hN1⟩
  simp only at hq g1 hS1 hd1 hlen hB1 hc1 hN1 ⊢
  have s2 := hr.1.1
  have se := hr.2.1
  obtain ⟨bv, hbv⟩ : ∃ bv, osV s1.bufs.length h1.y = bv := ⟨_, rfl⟩
  obtain ⟨lv, hlv⟩ : ∃ lv, osV s1.l.length h1.ly = lv := ⟨_, rfl⟩
  have hHp := lrHp_eq xb regs vb vo ev s1 h1 hbv hlv
  cases q with
  | nil =>
    have hj : j = i + p.flat.length := by simpa [Pg.flat] using hlen
    have k1 : cm .eql (j : Int) ((i + p.flat.length : Nat) : Int) = true := cm_yes (by rw [hj])
    repeat' (first | refine D.jumpRet ?_ | refine C.seq ?_ | refine C.region ?_ | refine L.nil ?_ | refine D.seq ?_ | refine L.move (k := ?_) | refine L.assign (k := ?_) | refine L.cm (c := ?_) | refine C.yes (h1 := ?_) | refine C.ret ?_ | refine D.thenRet ?_)
    refine D.ret (vs := [_]) (RV.tmp rfl RV.nil) ?_
    intro w' hw
    refine Post.mkD 0 hw rfl ?_
    rw [← hq]
    exact ⟨h1, g1, hB1, rfl, rfl⟩
  | op o r =>
    obtain ⟨hf, h16, h17, hmk, hrS⟩ := hS1
    obtain ⟨e1, hlt, hd2, ho⟩ := opAt_drop (rest := r.flat ++ rest1) hd1
    have hmem := List.mem_of_getElem? ho
    simp only [Pg.flat, List.length_cons, Pg.cnt] at hlen hc1 hN1
    have k1 : cm .eql (j : Int) ((i + p.flat.length : Nat) : Int) = false := cm_no (by omega)
    have k16 : cm .eql o.k 16 = false := cm_no h16
    have kj : ar .add .i64 (j : Int) 1 = ((j + 1 : Nat) : Int) := wrap_nat (by omega)
    have o2 := hr.1.2 (by omega)
    obtain ⟨ha0, hal⟩ := flat_at encO_len ho
    have ha := ha0.trans (encO_ex o)
    obtain ⟨la, lb, lc⟩ := abc_lt hf h64
    have le := e_lt hf h64
    obtain ⟨kr1, kr2⟩ := k_range hf
    have hr64 := g1.r
    have gl := g1.l
    rw [hHp]
    cases hm : (cm .eql o.k 14 || cm .eql o.k 15) with
    | false =>
      obtain ⟨k14, k15⟩ := Bool.or_eq_false_iff.1 hm
      have n15 : o.k ≠ 15 := fun e => by rw [cm_yes e] at k15; cases k15
      have n14 : o.k ≠ 14 := fun e => by rw [cm_yes e] at k14; cases k14
      obtain ⟨hd0, hd1'⟩ := has_d hf n15 h17
      have kM := lmake_S xb regs vb vo ev bv lv s1.r o hr64 kr1 (by omega) la lb lc (fun h89 => by have := shift_imm hf (by rcases h89 with e | e <;> rw [cm_yes e] <;> simp); omega) g1.w
      have hW := makeV_W64 (o := o) (c := cm .eql (ar .rem .u64 (rAt s1.r o.c) 2) 1) (hI o hmem) (rAt_W64 g1.w o.a) (rAt_W64 g1.w o.b)
      have hstO : stepO o j s1 = some ⟨putR (putR s1.r o.d (makeV o (rAt s1.r o.a) (rAt s1.r o.b) (cm .eql (ar .rem .u64 (rAt s1.r o.c) 2) 1)).1) o.e (makeV o (rAt s1.r o.a) (rAt s1.r o.b) (cm .eql (ar .rem .u64 (rAt s1.r o.c) 2) 1)).2, s1.bufs, s1.l ++ [⟨j, -1⟩]⟩ := by
        unfold stepO; rw [if_neg (by rw [hm]; simp)]
      obtain ⟨mv, hmv⟩ : ∃ x, makeV o (rAt s1.r o.a) (rAt s1.r o.b) (cm .eql (ar .rem .u64 (rAt s1.r o.c) 2) 1) = x := ⟨_, rfl⟩
      rw [hmv] at kM hW hstO
      obtain ⟨d, e⟩ := mv
      simp only at kM hW hstO
      rw [putR_ge hd0] at hstO
      have hqx : r.exec (j + 1) ⟨putR (s1.r.set o.d.toNat d) o.e e, s1.bufs, s1.l ++ [⟨j, -1⟩]⟩ = p.exec i s := by rw [← hq]; simp only [Pg.exec, hstO]
      have hdi : o.d = (o.d.toNat : Int) := by omega
      have hdk : o.d.toNat < 64 := by omega
      have hdz : 0 + 4 + o.d.toNat * 1 = 4 + o.d.toNat := by omega
      have hdR : o.d.toNat < s1.r.length := by first | omega | (simp only [List.length_set]; omega)
      have hdL : 4 + o.d.toNat < (rnC regs vb vo ev s1.r bv lv).length := by rw [rn_len (by first | exact g1.r | (simp only [List.length_set]; exact g1.r))]; omega

      repeat' (first | refine C.seq ?_ | refine C.region ?_ | refine L.nil ?_ | refine D.seq ?_ | refine L.move (k := ?_) | refine L.assign (k := ?_) | refine L.cm (c := ?_) | refine L.fieldAddr (c := ?_) | refine L.load1 0 (c := ?_) | refine L.loadA 0 (c := ?_) | refine L.storeV 0 (c := ?_) | refine L.alloc (c := fun _ => ?_) | refine L.nilCheck (k := ?_) | refine C.no (h1 := ?_) | refine C.block ?_ | refine C.skip ?_ | refine L.indexR s2 hlt (c := ?_) | refine L.loadOA o2 (i := j * 8) (ho := rfl) (hi := hal) (hcs := ha) (c := ?_))
      rename_i ob1
      refine L.callQ kM (hpre := fun w hw => Old.own (hw.holds (xb, ob (rnC regs vb vo ev s1.r bv lv) 96) mem1) (by simp) _ List.take_length) (k := ?_)
      repeat' (first | refine C.seq ?_ | refine L.nil ?_ | refine D.seq ?_ | refine L.move (k := ?_) | refine L.assign (k := ?_) | refine L.extract (c := ?_))
      refine C.make ((ob1, ob [.int .i64 o.k, .int .i64 o.d, .int .i64 o.e, .int .i64 o.a, .int .i64 o.b, .int .i64 o.c, .int .i64 o.buf, .int .u64 o.imm] 39) :: (osC 47 h1.y [] ++ (rowsHp h1.ys ++ osC 55 h1.ly []))) (by kernel_rfl) (h := ?_)
      iterate 7 ((refine QP.quiet (v := ?_) (by exact rfl) (by exact rfl) (fun w1 g1 => ?_) ?_; rotate_left); repeat (first | refine L.nil ?_ | refine L.move (k := ?_) | refine L.fieldAddr (c := ?_) | refine L.load1 0 (c := ?_) | refine L.nilCheck (k := ?_) | exact D.endsQ | refine L.indexArr (k := o.d.toNat) hdi hdk (c := ?_)))
      refine QP.mk0 [(xb, ob (rnC regs vb vo ev s1.r bv lv) 96)] (fun F B => F = [] ∧ B = [(xb, ob (rnC regs vb vo ev (s1.r.set o.d.toNat d) bv lv) 96)]) (h := fun w1 g1 => ?_) (k := ?_)
      · simp only [List.cons_append, List.nil_append] at g1 ⊢
        refine L.storeK 0 hdL hdz (hM := rn_hset _ xb regs vb vo ev bv lv _ _ _ hdR) (c := ?_)
        refine L.nil ?_
        exact D.endsP0 [] [(xb, ob (rnC regs vb vo ev (s1.r.set o.d.toNat d) bv lv) 96)] (hM := rfl) (hF := fun _ _ h => by cases h) (hR := ⟨rfl, rfl⟩)
      refine QP.fin1 [none, none, none, none, none, none, none, some []] 7 (nds := [[], [], [], [], [], [], [], []]) (hM := ?_) (k := ?_)
      · exact List.Perm.swap _ _ _
      rintro F B ⟨rfl, rfl⟩
      simp only [List.cons_append, List.nil_append]
      cases hce : cm .geq o.e 0 with
      | false =>
        have hput : putR (s1.r.set o.d.toNat d) o.e e = s1.r.set o.d.toNat d := by unfold putR; rw [hce]; rfl
        rw [hput] at hqx
        repeat' (first | refine C.seq ?_ | refine C.region ?_ | refine L.nil ?_ | refine D.seq ?_ | refine L.move (k := ?_) | refine L.cm (c := ?_) | refine L.fieldAddr (c := ?_) | refine L.load1 1 (c := ?_) | refine L.nilCheck (k := ?_) | refine C.no (h1 := ?_) | refine C.skip ?_ | refine D.seqR (h := ?_))
        have hr3 : ((s1.r.set o.d.toNat d)).length = 64 := by simp only [List.length_set]; exact hr64
        have hrun : LRun ⟨(s1.r.set o.d.toNat d), s1.bufs, s1.l⟩ h1 := g1.reg hW.1
        have h69 : 69 < (rnC regs vb vo ev (s1.r.set o.d.toNat d) bv lv).length := by rw [rn_len hr3]; decide
        have hll : s1.l.length ≤ 16777216 := by omega
        repeat' (first | refine L.move (k := ?_) | refine L.build (c := ?_) | refine L.buildS (c := fun _ => ?_) | refine L.loadK 0 (rn_l hr3) rfl (c := ?_))
        rename_i vb1
        refine L.appendU ((vb1, ob [int (j : Int), int (-1)] 55) :: (xb, ob (rnC regs vb vo ev (s1.r.set o.d.toNat d) bv lv) 96) :: (ob1, ob [.int .i64 o.k, .int .i64 o.d, .int .i64 o.e, .int .i64 o.a, .int .i64 o.b, .int .i64 o.c, .int .i64 o.buf, .int .u64 o.imm] 39) :: (osC 47 h1.y [] ++ rowsHp h1.ys)) (L2 := []) (u := .slice (some ⟨vb1, 0, none⟩) 1 1) (k := 1) (news := [int (j : Int), int (-1)]) gl (by simp) (fun w hw => Rd.own (hw.holds _ List.mem_cons_self) (by simp) (Nat.le_refl _) 2 rfl) rfl (by intro u hu; simp at hu; rcases hu with rfl | rfl <;> rfl) (by unfold maxLen; omega) (by omega) (hx := by rw [hlv]; exact rfl) (c := fun y' hG' _ => ?_)
        repeat' (first | refine L.storeK 1 h69 rfl (hc := osV_cells _ _) (h1 := oneB_os _ _) (hM := rn_hset1 _ _ xb regs vb vo ev bv lv _ _ hr3) (c := ?_) | refine C.goto ?_ | refine D.thenGoto ?_ | refine D.blkGoto ?_ | refine C.seq ?_ | refine C.region ?_ | refine L.nil ?_ | refine D.seq ?_ | refine L.move (k := ?_) | refine L.assign (k := ?_) | refine L.ar (c := ?_) | refine L.fieldAddr (c := ?_) | refine L.nilCheck (k := ?_) | refine D.blkNormal ?_ | refine D.seqR (h := ?_))
        refine D.perm (M' := (vb1, ob [int (j : Int), int (-1)] 55) :: (ob1, ob [.int .i64 o.k, .int .i64 o.d, .int .i64 o.e, .int .i64 o.a, .int .i64 o.b, .int .i64 o.c, .int .i64 o.buf, .int .u64 o.imm] 39) :: lrHp xb regs vb vo ev ⟨(s1.r.set o.d.toNat d), s1.bufs, s1.l ++ [⟨j, (-1)⟩]⟩ { h1 with ly := y' }) ?_ ?_
        · rw [lrHp_eq xb regs vb vo ev _ _ (bv := bv) (lv := osV (s1.l.length + 1) y') (by first | exact hbv | (simp only [List.length_set]; exact hbv)) (by simp only [List.length_append, List.length_singleton])]
          exact perm_by (fun kk => match kk with | 0 => [(vb1, ob [int (j : Int), int (-1)] 55)] | 1 => [(ob1, ob [.int .i64 o.k, .int .i64 o.d, .int .i64 o.e, .int .i64 o.a, .int .i64 o.b, .int .i64 o.c, .int .i64 o.buf, .int .u64 o.imm] 39)] | 2 => [(xb, ob (rnC regs vb vo ev (s1.r.set o.d.toNat d) bv (osV (s1.l.length + 1) y')) 96)] | 3 => osC 47 h1.y [] | 4 => rowsHp h1.ys | _ => osC 55 y' []) [0, 1, 2, 3, 4, 5] [0, 2, 1, 3, 4, 5] (by simp) (by simp)
        refine D.jump fun a1 w1 hs => ⟨(r, j + 1, ⟨(s1.r.set o.d.toNat d), s1.bufs, s1.l ++ [⟨j, (-1)⟩]⟩, { h1 with ly := y' }), ⟨hqx, hrun.ev (e := ⟨j, (-1)⟩) hG', ⟨_, hrS⟩, ⟨_, hd2⟩, by simp only; omega, hB1, by simp only [List.length_append, List.length_singleton]; omega, by simp only; omega⟩, by simp only [Pg.flat, List.length_cons]; omega, hs.lessD 2 rfl (lk_cons rfl (lk_cons rfl (lk_cons rfl (fun _ _ h => lk_nil h))))⟩

      | true =>
        have he0 : 0 ≤ o.e := by simpa [cm] using hce
        have hei : o.e = (o.e.toNat : Int) := by omega
        have hek : o.e.toNat < 64 := by omega
        have hez : 0 + 4 + o.e.toNat * 1 = 4 + o.e.toNat := by omega
        have heR : o.e.toNat < (s1.r.set o.d.toNat d).length := by first | omega | (simp only [List.length_set]; omega)
        have heL : 4 + o.e.toNat < (rnC regs vb vo ev (s1.r.set o.d.toNat d) bv lv).length := by rw [rn_len (by first | exact g1.r | (simp only [List.length_set]; exact g1.r))]; omega

        have hput : putR (s1.r.set o.d.toNat d) o.e e = (s1.r.set o.d.toNat d).set o.e.toNat e := putR_ge he0
        rw [hput] at hqx
        repeat' (first | refine C.seq ?_ | refine C.region ?_ | refine L.nil ?_ | refine D.seq ?_ | refine L.cm (c := ?_) | refine L.fieldAddr (c := ?_) | refine L.load1 1 (c := ?_) | refine C.yes (h1 := ?_) | refine D.seqR (h := ?_))
        refine C.make ((ob1, ob [.int .i64 o.k, .int .i64 o.d, .int .i64 o.e, .int .i64 o.a, .int .i64 o.b, .int .i64 o.c, .int .i64 o.buf, .int .u64 o.imm] 39) :: (osC 47 h1.y [] ++ (rowsHp h1.ys ++ osC 55 h1.ly []))) (by kernel_rfl) (h := ?_)
        iterate 7 ((refine QP.quiet (v := ?_) (by exact rfl) (by exact rfl) (fun w1 g1 => ?_) ?_; rotate_left); repeat (first | refine L.nil ?_ | refine L.move (k := ?_) | refine L.fieldAddr (c := ?_) | refine L.load1 0 (c := ?_) | refine L.nilCheck (k := ?_) | exact D.endsQ | refine L.indexArr (k := o.e.toNat) hei hek (c := ?_)))
        refine QP.mk0 [(xb, ob (rnC regs vb vo ev (s1.r.set o.d.toNat d) bv lv) 96)] (fun F B => F = [] ∧ B = [(xb, ob (rnC regs vb vo ev ((s1.r.set o.d.toNat d).set o.e.toNat e) bv lv) 96)]) (h := fun w1 g1 => ?_) (k := ?_)
        · simp only [List.cons_append, List.nil_append] at g1 ⊢
          refine L.storeK 0 heL hez (hM := rn_hset _ xb regs vb vo ev bv lv _ _ _ heR) (c := ?_)
          refine L.nil ?_
          exact D.endsP0 [] [(xb, ob (rnC regs vb vo ev ((s1.r.set o.d.toNat d).set o.e.toNat e) bv lv) 96)] (hM := rfl) (hF := fun _ _ h => by cases h) (hR := ⟨rfl, rfl⟩)
        refine QP.fin1 [none, none, none, none, none, none, none, some []] 7 (nds := [[], [], [], [], [], [], [], []]) (hM := ?_) (k := ?_)
        · exact List.Perm.refl _
        rintro F B ⟨rfl, rfl⟩
        simp only [List.cons_append, List.nil_append]
        have hr3 : (((s1.r.set o.d.toNat d).set o.e.toNat e)).length = 64 := by simp only [List.length_set]; exact hr64
        have hrun : LRun ⟨((s1.r.set o.d.toNat d).set o.e.toNat e), s1.bufs, s1.l⟩ h1 := (g1.reg hW.1).reg hW.2
        have h69 : 69 < (rnC regs vb vo ev ((s1.r.set o.d.toNat d).set o.e.toNat e) bv lv).length := by rw [rn_len hr3]; decide
        have hll : s1.l.length ≤ 16777216 := by omega
        repeat' (first | refine C.region ?_ | refine L.move (k := ?_) | refine L.fieldAddr (c := ?_) | refine L.build (c := ?_) | refine L.nilCheck (k := ?_) | refine D.seqR (h := ?_) | refine L.buildS (c := fun _ => ?_) | refine L.loadK 0 (rn_l hr3) rfl (c := ?_))
        rename_i vb1
        refine L.appendU ((vb1, ob [int (j : Int), int (-1)] 55) :: (xb, ob (rnC regs vb vo ev ((s1.r.set o.d.toNat d).set o.e.toNat e) bv lv) 96) :: (ob1, ob [.int .i64 o.k, .int .i64 o.d, .int .i64 o.e, .int .i64 o.a, .int .i64 o.b, .int .i64 o.c, .int .i64 o.buf, .int .u64 o.imm] 39) :: (osC 47 h1.y [] ++ rowsHp h1.ys)) (L2 := []) (u := .slice (some ⟨vb1, 0, none⟩) 1 1) (k := 1) (news := [int (j : Int), int (-1)]) gl (by simp) (fun w hw => Rd.own (hw.holds _ List.mem_cons_self) (by simp) (Nat.le_refl _) 2 rfl) rfl (by intro u hu; simp at hu; rcases hu with rfl | rfl <;> rfl) (by unfold maxLen; omega) (by omega) (hx := by rw [hlv]; exact rfl) (c := fun y' hG' _ => ?_)
        repeat' (first | refine L.storeK 1 h69 rfl (hc := osV_cells _ _) (h1 := oneB_os _ _) (hM := rn_hset1 _ _ xb regs vb vo ev bv lv _ _ hr3) (c := ?_) | refine C.goto ?_ | refine D.thenGoto ?_ | refine D.blkGoto ?_ | refine C.seq ?_ | refine C.region ?_ | refine L.nil ?_ | refine D.seq ?_ | refine L.move (k := ?_) | refine L.assign (k := ?_) | refine L.ar (c := ?_) | refine L.fieldAddr (c := ?_) | refine L.nilCheck (k := ?_) | refine D.blkNormal ?_ | refine D.seqR (h := ?_))
        refine D.perm (M' := (vb1, ob [int (j : Int), int (-1)] 55) :: (ob1, ob [.int .i64 o.k, .int .i64 o.d, .int .i64 o.e, .int .i64 o.a, .int .i64 o.b, .int .i64 o.c, .int .i64 o.buf, .int .u64 o.imm] 39) :: lrHp xb regs vb vo ev ⟨((s1.r.set o.d.toNat d).set o.e.toNat e), s1.bufs, s1.l ++ [⟨j, (-1)⟩]⟩ { h1 with ly := y' }) ?_ ?_
        · rw [lrHp_eq xb regs vb vo ev _ _ (bv := bv) (lv := osV (s1.l.length + 1) y') (by first | exact hbv | (simp only [List.length_set]; exact hbv)) (by simp only [List.length_append, List.length_singleton])]
          exact perm_by (fun kk => match kk with | 0 => [(vb1, ob [int (j : Int), int (-1)] 55)] | 1 => [(ob1, ob [.int .i64 o.k, .int .i64 o.d, .int .i64 o.e, .int .i64 o.a, .int .i64 o.b, .int .i64 o.c, .int .i64 o.buf, .int .u64 o.imm] 39)] | 2 => [(xb, ob (rnC regs vb vo ev ((s1.r.set o.d.toNat d).set o.e.toNat e) bv (osV (s1.l.length + 1) y')) 96)] | 3 => osC 47 h1.y [] | 4 => rowsHp h1.ys | _ => osC 55 y' []) [0, 1, 2, 3, 4, 5] [0, 2, 1, 3, 4, 5] (by simp) (by simp)
        refine D.jump fun a1 w1 hs => ⟨(r, j + 1, ⟨((s1.r.set o.d.toNat d).set o.e.toNat e), s1.bufs, s1.l ++ [⟨j, (-1)⟩]⟩, { h1 with ly := y' }), ⟨hqx, hrun.ev (e := ⟨j, (-1)⟩) hG', ⟨_, hrS⟩, ⟨_, hd2⟩, by simp only; omega, hB1, by simp only [List.length_append, List.length_singleton]; omega, by simp only; omega⟩, by simp only [Pg.flat, List.length_cons]; omega, hs.lessD 2 rfl (lk_cons rfl (lk_cons rfl (lk_cons rfl (fun _ _ h => lk_nil h))))⟩

    | true =>
      obtain ⟨hb0, hb1, hoe, hd15⟩ := mem_fields hf hm
      have hbi : o.buf = (o.buf.toNat : Int) := by omega
      have hbk : o.buf.toNat < s1.bufs.length := by omega
      obtain ⟨row, hrow⟩ : ∃ row, s1.bufs[o.buf.toNat]? = some row := ⟨_, List.getElem?_eq_getElem hbk⟩
      obtain ⟨yk, hyk⟩ : ∃ yk, h1.ys[o.buf.toNat]? = some yk := ⟨_, List.getElem?_eq_getElem (by rw [g1.b.1]; exact hbk)⟩
      have hGr := g1.b.2 _ row yk hrow hyk
      have hle := hGr.le
      have hcell := rowsV_at hrow hyk
      obtain ⟨rwv, hrwv⟩ : ∃ v, osV row.length yk = v := ⟨_, rfl⟩
      rw [hrwv] at hcell
      have hbuf : bufAt s1 o.buf = row := by unfold bufAt; rw [hrow]; rfl
      have hsr := hGr.sl
      rw [hrwv] at hsr
      have gy := g1.y
      have hsy := gy.sl
      rw [hbv] at hsy
      have hcv : IntKind.u64.wrap (row.length : Int) = row.length := u64_wrap (by unfold maxLen at hle; omega)
      have hn0 : 0 ≤ ar .add .u64 o.imm (rAt s1.r o.a) := ar_u64 _ _
      have hMy : ∀ ob1 : Nat, ((ob1, ob [.int .i64 o.k, .int .i64 o.d, .int .i64 o.e, .int .i64 o.a, .int .i64 o.b, .int .i64 o.c, .int .i64 o.buf, .int .u64 o.imm] 39) :: (xb, ob (rnC regs vb vo ev s1.r bv lv) 96) :: (osC 47 h1.y [] ++ (rowsHp h1.ys ++ osC 55 h1.ly []))) = ((ob1, ob [.int .i64 o.k, .int .i64 o.d, .int .i64 o.e, .int .i64 o.a, .int .i64 o.b, .int .i64 o.c, .int .i64 o.buf, .int .u64 o.imm] 39) :: (xb, ob (rnC regs vb vo ev s1.r bv lv) 96) :: []) ++ osC 47 h1.y (rowsHp h1.ys ++ osC 55 h1.ly []) := by
        intro ob1; rw [osC_app 47 h1.y (rowsHp h1.ys ++ osC 55 h1.ly [])]; rfl
      have kA := lof_S xb regs vb vo ev bv lv s1.r o.a hr64 la
      have key : ∀ k15 : Bool, cm .eql o.k 15 = k15 → cm .eql o.k 14 = !k15 := fun k15 hk => by
        cases k15 with
        | true => exact cm_no (by rw [cm_yes' hk]; decide)
        | false => rw [hk, Bool.or_false] at hm; exact hm
      cases hk15 : cm .eql o.k 15 with
      | false =>
        have k14 : cm .eql o.k 14 = true := key _ hk15
        repeat' (first | refine L.convI (hz := hcv) (c := ?_) | refine C.seq ?_ | refine C.region ?_ | refine L.nil ?_ | refine D.seq ?_ | refine L.move (k := ?_) | refine L.assign (k := ?_) | refine L.cm (c := ?_) | refine L.ar (c := ?_) | refine L.fieldAddr (c := ?_) | refine L.load1 0 (c := ?_) | refine L.storeV 0 (c := ?_) | refine L.alloc (c := fun _ => ?_) | refine L.nilCheck (k := ?_) | refine C.yes (h1 := ?_) | refine C.no (h1 := ?_) | refine C.block ?_ | refine C.skip ?_ | exact D.endsQ | refine QL.fin ?_ | (refine QL.step (v := ?_) (by exact rfl) (by exact rfl) ?_ ?_; rotate_left) | refine C.quiet (h := ?_) | refine L.indexR s2 hlt (c := ?_) | refine L.loadOA o2 (i := j * 8) (ho := rfl) (hi := hal) (hcs := ha) (c := ?_) | refine L.callQ kA (hpre := fun w hw => Old.own (hw.holds (xb, ob (rnC regs vb vo ev s1.r bv lv) 96) mem1) (by simp) _ List.take_length) (k := ?_) | refine L.loadK 1 (rn_bufs hr64) rfl (c := ?_) | refine L.indexR hsy hbk (hi := hbi) (c := ?_) | refine L.loadW _ (L2 := rowsHp h1.ys ++ osC 55 h1.ly []) (j := 0) gy (hMy _) hbv hbk (by decide) hcell (c := ?_) | refine L.lenR hsr (c := ?_))
        rename_i ob1
        obtain ⟨n, hn⟩ : ∃ n, ar .add .u64 o.imm (rAt s1.r o.a) = n := ⟨_, rfl⟩
        rw [hn] at hn0
        simp only [hn]
        refine C.condE (h1 := fun hc2 => ?_) (h2 := fun hc2 => ?_)
        · repeat' (first | refine D.jumpRet ?_ | refine C.seq ?_ | refine C.region ?_ | refine L.nil ?_ | refine D.seq ?_ | refine L.assign (k := ?_) | refine C.ret ?_ | refine D.thenRet ?_ | refine D.blkRet ?_)
          refine D.ret (vs := [_]) (RV.tmp rfl RV.nil) ?_
          intro w' hw
          refine Post.mkD 1 hw rfl ?_
          have hst : stepO o j s1 = none := by unfold stepO; rw [if_pos hm, hbuf, hn, if_pos hc2]
          have hpe : p.exec i s = (s1, false) := by rw [← hq]; simp only [Pg.exec, hst]
          rw [hpe]
          exact ⟨h1, g1, hB1, rfl, hHp.symm⟩
        have hnl : n < row.length := by simpa [cm] using hc2
        have hni : n = (n.toNat : Int) := by omega
        have hnk : n.toNat < row.length := by omega
        have hcw : IntKind.i64.wrap n = n := wrap_63 (by unfold maxLen at hle; omega)
        obtain ⟨v, hv⟩ : ∃ v, row[n.toNat]? = some v := ⟨_, List.getElem?_eq_getElem hnk⟩
        have hvW : W64 v := g1.bw row (List.mem_of_getElem? hrow) v (List.mem_of_getElem? hv)
        have hvc : (row.map u64)[n.toNat * 1 + 0]? = some (.int .u64 v) := enc_at (enc := u64) hv
        obtain ⟨hd0, hd1'⟩ := has_d hf (fun e => by rw [cm_yes e] at hk15; cases hk15) h17
        have hdi : o.d = (o.d.toNat : Int) := by omega
        have hdk : o.d.toNat < 64 := by omega
        have hdz : 0 + 4 + o.d.toNat * 1 = 4 + o.d.toNat := by omega
        have hdR : o.d.toNat < s1.r.length := by first | omega | (simp only [List.length_set]; omega)
        have hdL : 4 + o.d.toNat < (rnC regs vb vo ev s1.r bv lv).length := by rw [rn_len (by first | exact g1.r | (simp only [List.length_set]; exact g1.r))]; omega

        have hM0 : ((ob1, ob [.int .i64 o.k, .int .i64 o.d, .int .i64 o.e, .int .i64 o.a, .int .i64 o.b, .int .i64 o.c, .int .i64 o.buf, .int .u64 o.imm] 39) :: (osC 47 h1.y [] ++ (rowsHp h1.ys ++ osC 55 h1.ly []))) = ((ob1, ob [.int .i64 o.k, .int .i64 o.d, .int .i64 o.e, .int .i64 o.a, .int .i64 o.b, .int .i64 o.c, .int .i64 o.buf, .int .u64 o.imm] 39) :: (osC 47 h1.y [] ++ rowsHp (h1.ys.take o.buf.toNat))) ++ osC 37 yk (rowsHp (h1.ys.drop (o.buf.toNat + 1)) ++ osC 55 h1.ly []) := by
          rw [rows_cut hyk, osC_app 37 yk (rowsHp (h1.ys.drop (o.buf.toNat + 1)) ++ osC 55 h1.ly [])]; simp only [List.append_assoc, List.cons_append]
        have hst : stepO o j s1 = some ⟨s1.r.set o.d.toNat v, s1.bufs, s1.l ++ [⟨j, n⟩]⟩ := by
          have hv2 : (row[n.toNat]?).getD 0 = v := by rw [hv]; rfl
          unfold stepO; rw [if_pos hm, hbuf, hn, if_neg (by rw [hc2]; simp), hk15, if_neg (by simp), if_neg (by simp), hv2, putR_ge hd0]
        have hqx : r.exec (j + 1) ⟨s1.r.set o.d.toNat v, s1.bufs, s1.l ++ [⟨j, n⟩]⟩ = p.exec i s := by rw [← hq]; simp only [Pg.exec, hst]
        repeat' (first | refine C.seq ?_ | refine C.region ?_ | refine L.nil ?_ | refine D.seq ?_ | refine L.move (k := ?_) | refine L.assign (k := ?_) | refine L.cm (c := ?_) | refine L.fieldAddr (c := ?_) | refine L.load1 0 (c := ?_) | refine L.nilCheck (k := ?_) | refine C.no (h1 := ?_) | refine C.skip ?_ | refine D.seqR (h := ?_) | exact D.endsQ | refine QL.fin ?_ | (refine QL.step (v := ?_) (by exact rfl) (by exact rfl) ?_ ?_; rotate_left) | refine C.quiet (h := ?_) | refine L.loadK 1 (rn_bufs hr64) rfl (c := ?_) | refine L.indexR hsy hbk (hi := hbi) (c := ?_) | refine L.loadW _ (L2 := rowsHp h1.ys ++ osC 55 h1.ly []) (j := 0) gy (hMy _) hbv hbk (by decide) hcell (c := ?_) | refine L.indexR hsr hnk (hi := hni) (c := ?_))
        refine C.make ((ob1, ob [.int .i64 o.k, .int .i64 o.d, .int .i64 o.e, .int .i64 o.a, .int .i64 o.b, .int .i64 o.c, .int .i64 o.buf, .int .u64 o.imm] 39) :: (osC 47 h1.y [] ++ (rowsHp h1.ys ++ osC 55 h1.ly []))) (by kernel_rfl) (h := ?_)
        iterate 9 ((refine QP.quiet (v := ?_) (by exact rfl) (by exact rfl) (fun w1 g1 => ?_) ?_; rotate_left); repeat (first | refine L.nil ?_ | refine L.move (k := ?_) | refine L.fieldAddr (c := ?_) | refine L.load1 0 (c := ?_) | refine L.nilCheck (k := ?_) | exact D.endsQ | refine L.indexArr (k := o.d.toNat) hdi hdk (c := ?_) | refine L.loadW ((ob1, ob [.int .i64 o.k, .int .i64 o.d, .int .i64 o.e, .int .i64 o.a, .int .i64 o.b, .int .i64 o.c, .int .i64 o.buf, .int .u64 o.imm] 39) :: (osC 47 h1.y [] ++ rowsHp (h1.ys.take o.buf.toNat))) (L2 := rowsHp (h1.ys.drop (o.buf.toNat + 1)) ++ osC 55 h1.ly []) (j := 0) hGr hM0 hrwv hnk (by decide) hvc (c := ?_)))
        refine QP.mk0 [(xb, ob (rnC regs vb vo ev s1.r bv lv) 96)] (fun F B => F = [] ∧ B = [(xb, ob (rnC regs vb vo ev (s1.r.set o.d.toNat v) bv lv) 96)]) (h := fun w1 g1 => ?_) (k := ?_)
        · simp only [List.cons_append, List.nil_append] at g1 ⊢
          refine L.storeK 0 hdL hdz (hM := rn_hset _ xb regs vb vo ev bv lv _ _ _ hdR) (c := ?_)
          refine L.nil ?_
          exact D.endsP0 [] [(xb, ob (rnC regs vb vo ev (s1.r.set o.d.toNat v) bv lv) 96)] (hM := rfl) (hF := fun _ _ h => by cases h) (hR := ⟨rfl, rfl⟩)
        refine QP.fin1 [none, none, none, none, none, none, none, none, none, some []] 9 (nds := [[], [], [], [], [], [], [], [], [], []]) (hM := ?_) (k := ?_)
        · exact List.Perm.swap _ _ _
        rintro F B ⟨rfl, rfl⟩
        simp only [List.cons_append, List.nil_append]
        have hr3 : ((s1.r.set o.d.toNat v)).length = 64 := by simp only [List.length_set]; exact hr64
        have hrun : LRun ⟨(s1.r.set o.d.toNat v), s1.bufs, s1.l⟩ h1 := g1.reg hvW
        have h69 : 69 < (rnC regs vb vo ev (s1.r.set o.d.toNat v) bv lv).length := by rw [rn_len hr3]; decide
        have hll : s1.l.length ≤ 16777216 := by omega
        repeat' (first | refine L.convI (hz := hcw) (c := ?_) | refine C.region ?_ | refine L.move (k := ?_) | refine L.fieldAddr (c := ?_) | refine L.build (c := ?_) | refine L.nilCheck (k := ?_) | refine D.seqR (h := ?_) | refine L.buildS (c := fun _ => ?_) | refine L.loadK 0 (rn_l hr3) rfl (c := ?_))
        rename_i vb1
        refine L.appendU ((vb1, ob [int (j : Int), int n] 55) :: (xb, ob (rnC regs vb vo ev (s1.r.set o.d.toNat v) bv lv) 96) :: (ob1, ob [.int .i64 o.k, .int .i64 o.d, .int .i64 o.e, .int .i64 o.a, .int .i64 o.b, .int .i64 o.c, .int .i64 o.buf, .int .u64 o.imm] 39) :: (osC 47 h1.y [] ++ rowsHp h1.ys)) (L2 := []) (u := .slice (some ⟨vb1, 0, none⟩) 1 1) (k := 1) (news := [int (j : Int), int n]) gl (by simp) (fun w hw => Rd.own (hw.holds _ List.mem_cons_self) (by simp) (Nat.le_refl _) 2 rfl) rfl (by intro u hu; simp at hu; rcases hu with rfl | rfl <;> rfl) (by unfold maxLen; omega) (by omega) (hx := by rw [hlv]; exact rfl) (c := fun y' hG' _ => ?_)
        repeat' (first | refine L.storeK 1 h69 rfl (hc := osV_cells _ _) (h1 := oneB_os _ _) (hM := rn_hset1 _ _ xb regs vb vo ev bv lv _ _ hr3) (c := ?_) | refine C.goto ?_ | refine D.thenGoto ?_ | refine D.blkGoto ?_ | refine C.seq ?_ | refine C.region ?_ | refine L.nil ?_ | refine D.seq ?_ | refine L.move (k := ?_) | refine L.assign (k := ?_) | refine L.ar (c := ?_) | refine L.fieldAddr (c := ?_) | refine L.nilCheck (k := ?_) | refine D.blkNormal ?_ | refine D.seqR (h := ?_))
        refine D.perm (M' := (vb1, ob [int (j : Int), int n] 55) :: (ob1, ob [.int .i64 o.k, .int .i64 o.d, .int .i64 o.e, .int .i64 o.a, .int .i64 o.b, .int .i64 o.c, .int .i64 o.buf, .int .u64 o.imm] 39) :: lrHp xb regs vb vo ev ⟨(s1.r.set o.d.toNat v), s1.bufs, s1.l ++ [⟨j, n⟩]⟩ { h1 with ly := y' }) ?_ ?_
        · rw [lrHp_eq xb regs vb vo ev _ _ (bv := bv) (lv := osV (s1.l.length + 1) y') (by first | exact hbv | (simp only [List.length_set]; exact hbv)) (by simp only [List.length_append, List.length_singleton])]
          exact perm_by (fun kk => match kk with | 0 => [(vb1, ob [int (j : Int), int n] 55)] | 1 => [(ob1, ob [.int .i64 o.k, .int .i64 o.d, .int .i64 o.e, .int .i64 o.a, .int .i64 o.b, .int .i64 o.c, .int .i64 o.buf, .int .u64 o.imm] 39)] | 2 => [(xb, ob (rnC regs vb vo ev (s1.r.set o.d.toNat v) bv (osV (s1.l.length + 1) y')) 96)] | 3 => osC 47 h1.y [] | 4 => rowsHp h1.ys | _ => osC 55 y' []) [0, 1, 2, 3, 4, 5] [0, 2, 1, 3, 4, 5] (by simp) (by simp)
        refine D.jump fun a1 w1 hs => ⟨(r, j + 1, ⟨(s1.r.set o.d.toNat v), s1.bufs, s1.l ++ [⟨j, n⟩]⟩, { h1 with ly := y' }), ⟨hqx, hrun.ev (e := ⟨j, n⟩) hG', ⟨_, hrS⟩, ⟨_, hd2⟩, by simp only; omega, hB1, by simp only [List.length_append, List.length_singleton]; omega, by simp only; omega⟩, by simp only [Pg.flat, List.length_cons]; omega, hs.lessD 2 rfl (lk_cons rfl (lk_cons rfl (lk_cons rfl (fun _ _ h => lk_nil h))))⟩

      | true =>
        have k14 : cm .eql o.k 14 = false := key _ hk15
        repeat' (first | refine L.convI (hz := hcv) (c := ?_) | refine C.seq ?_ | refine C.region ?_ | refine L.nil ?_ | refine D.seq ?_ | refine L.move (k := ?_) | refine L.assign (k := ?_) | refine L.cm (c := ?_) | refine L.ar (c := ?_) | refine L.fieldAddr (c := ?_) | refine L.load1 0 (c := ?_) | refine L.storeV 0 (c := ?_) | refine L.alloc (c := fun _ => ?_) | refine L.nilCheck (k := ?_) | refine C.yes (h1 := ?_) | refine C.no (h1 := ?_) | refine C.block ?_ | refine C.skip ?_ | exact D.endsQ | refine QL.fin ?_ | (refine QL.step (v := ?_) (by exact rfl) (by exact rfl) ?_ ?_; rotate_left) | refine C.quiet (h := ?_) | refine L.indexR s2 hlt (c := ?_) | refine L.loadOA o2 (i := j * 8) (ho := rfl) (hi := hal) (hcs := ha) (c := ?_) | refine L.callQ kA (hpre := fun w hw => Old.own (hw.holds (xb, ob (rnC regs vb vo ev s1.r bv lv) 96) mem1) (by simp) _ List.take_length) (k := ?_) | refine L.loadK 1 (rn_bufs hr64) rfl (c := ?_) | refine L.indexR hsy hbk (hi := hbi) (c := ?_) | refine L.loadW _ (L2 := rowsHp h1.ys ++ osC 55 h1.ly []) (j := 0) gy (hMy _) hbv hbk (by decide) hcell (c := ?_) | refine L.lenR hsr (c := ?_))
        rename_i ob1
        obtain ⟨n, hn⟩ : ∃ n, ar .add .u64 o.imm (rAt s1.r o.a) = n := ⟨_, rfl⟩
        rw [hn] at hn0
        simp only [hn]
        refine C.condE (h1 := fun hc2 => ?_) (h2 := fun hc2 => ?_)
        · repeat' (first | refine D.jumpRet ?_ | refine C.seq ?_ | refine C.region ?_ | refine L.nil ?_ | refine D.seq ?_ | refine L.assign (k := ?_) | refine C.ret ?_ | refine D.thenRet ?_ | refine D.blkRet ?_)
          refine D.ret (vs := [_]) (RV.tmp rfl RV.nil) ?_
          intro w' hw
          refine Post.mkD 1 hw rfl ?_
          have hst : stepO o j s1 = none := by unfold stepO; rw [if_pos hm, hbuf, hn, if_pos hc2]
          have hpe : p.exec i s = (s1, false) := by rw [← hq]; simp only [Pg.exec, hst]
          rw [hpe]
          exact ⟨h1, g1, hB1, rfl, hHp.symm⟩
        have hnl : n < row.length := by simpa [cm] using hc2
        have hni : n = (n.toNat : Int) := by omega
        have hnk : n.toNat < row.length := by omega
        have hcw : IntKind.i64.wrap n = n := wrap_63 (by unfold maxLen at hle; omega)
        obtain ⟨v, hv⟩ : ∃ v, row[n.toNat]? = some v := ⟨_, List.getElem?_eq_getElem hnk⟩
        have hvW : W64 v := g1.bw row (List.mem_of_getElem? hrow) v (List.mem_of_getElem? hv)
        have hvc : (row.map u64)[n.toNat * 1 + 0]? = some (.int .u64 v) := enc_at (enc := u64) hv
        obtain ⟨hbb0, hbb1⟩ := has_b hf (cm_yes' hk15)
        have hbbi : o.b = (o.b.toNat : Int) := by omega
        have hbbk : o.b.toNat < 64 := by omega
        have hbbz : 0 + 4 + o.b.toNat * 1 = 4 + o.b.toNat := by omega
        have hvb : s1.r[o.b.toNat]? = some (rAt s1.r o.b) := by
          unfold rAt; rw [if_neg (by rw [cm_lo' hbb0]; simp), List.getElem?_eq_getElem (by omega)]; rfl
        have hvW2 := rAt_W64 g1.w o.b
        have hst : stepO o j s1 = some ⟨s1.r, s1.bufs.set o.buf.toNat (row.set n.toNat (rAt s1.r o.b)), s1.l ++ [⟨j, n⟩]⟩ := by
          unfold stepO; rw [if_pos hm, hbuf, hn, if_neg (by rw [hc2]; simp), hk15, if_pos rfl, if_pos rfl]
        have hqx : r.exec (j + 1) ⟨s1.r, s1.bufs.set o.buf.toNat (row.set n.toNat (rAt s1.r o.b)), s1.l ++ [⟨j, n⟩]⟩ = p.exec i s := by rw [← hq]; simp only [Pg.exec, hst]
        repeat' (first | refine C.seq ?_ | refine C.region ?_ | refine L.nil ?_ | refine D.seq ?_ | refine L.move (k := ?_) | refine L.assign (k := ?_) | refine L.cm (c := ?_) | refine L.fieldAddr (c := ?_) | refine L.load1 0 (c := ?_) | refine L.nilCheck (k := ?_) | refine C.yes (h1 := ?_) | refine C.skip ?_ | refine D.seqR (h := ?_) | exact D.endsQ | refine QL.fin ?_ | (refine QL.step (v := ?_) (by exact rfl) (by exact rfl) ?_ ?_; rotate_left) | refine C.quiet (h := ?_) | refine L.loadK 1 (rn_bufs hr64) rfl (c := ?_) | refine L.indexR hsy hbk (hi := hbi) (c := ?_) | refine L.loadW _ (L2 := rowsHp h1.ys ++ osC 55 h1.ly []) (j := 0) gy (hMy _) hbv hbk (by decide) hcell (c := ?_) | refine L.indexR hsr hnk (hi := hni) (c := ?_))
        refine C.make ((ob1, ob [.int .i64 o.k, .int .i64 o.d, .int .i64 o.e, .int .i64 o.a, .int .i64 o.b, .int .i64 o.c, .int .i64 o.buf, .int .u64 o.imm] 39) :: (xb, ob (rnC regs vb vo ev s1.r bv lv) 96) :: (osC 47 h1.y [] ++ (rowsHp (h1.ys.take o.buf.toNat) ++ (rowsHp (h1.ys.drop (o.buf.toNat + 1)) ++ osC 55 h1.ly [])))) (by kernel_rfl) (h := ?_)
        iterate 9 ((refine QP.quiet (v := ?_) (by exact rfl) (by exact rfl) (fun w1 g1 => ?_) ?_; rotate_left); repeat (first | refine L.nil ?_ | refine L.move (k := ?_) | refine L.fieldAddr (c := ?_) | refine L.load1 0 (c := ?_) | refine L.nilCheck (k := ?_) | exact D.endsQ | refine L.indexArr (k := o.b.toNat) hbbi hbbk (c := ?_) | refine L.loadK 1 (rn_reg hvb) hbbz (c := ?_)))
        refine QP.mk0 (osC 37 yk []) (fun F B => F = [] ∧ B = osC 37 (osSet yk (n.toNat * 1 + 0) (.int .u64 (rAt s1.r o.b))) []) (h := fun w1 g1 => ?_) (k := ?_)
        · refine L.setU [] (i := n.toNat) (j := 0) hGr (by rw [List.nil_append]; exact (osC_app _ _ _).symm) hrwv hnk (by decide) (c := fun hG' hv' => ?_)
          refine L.nil ?_
          exact D.endsP0 [] (osC 37 (osSet yk (n.toNat * 1 + 0) (.int .u64 (rAt s1.r o.b))) []) (hM := by rw [List.nil_append]; exact (osC_app _ _ _)) (hF := fun _ _ h => by cases h) (hR := ⟨rfl, rfl⟩)
        refine QP.fin1 [none, none, none, none, none, none, none, none, none, some []] 9 (nds := [[], [], [], [], [], [], [], [], [], []]) (hM := ?_) (k := ?_)
        · rw [rows_cut hyk]
          exact perm_by (fun kk => match kk with | 0 => [(ob1, ob [.int .i64 o.k, .int .i64 o.d, .int .i64 o.e, .int .i64 o.a, .int .i64 o.b, .int .i64 o.c, .int .i64 o.buf, .int .u64 o.imm] 39), (xb, ob (rnC regs vb vo ev s1.r bv lv) 96)] | 1 => osC 47 h1.y [] | 2 => rowsHp (h1.ys.take o.buf.toNat) | 3 => osC 37 yk [] | 4 => rowsHp (h1.ys.drop (o.buf.toNat + 1)) | _ => osC 55 h1.ly []) [0, 1, 2, 3, 4, 5] [3, 0, 1, 2, 4, 5] (by simp) (by simp [Pl.ini])
        rintro F B ⟨rfl, rfl⟩
        rw [List.nil_append]
        refine D.perm (M' := (xb, ob (rnC regs vb vo ev s1.r bv lv) 96) :: (ob1, ob [.int .i64 o.k, .int .i64 o.d, .int .i64 o.e, .int .i64 o.a, .int .i64 o.b, .int .i64 o.c, .int .i64 o.buf, .int .u64 o.imm] 39) :: (osC 47 h1.y [] ++ (rowsHp (h1.ys.set o.buf.toNat (osSet yk (n.toNat * 1 + 0) (.int .u64 (rAt s1.r o.b)))) ++ osC 55 h1.ly []))) ?_ ?_
        · rw [rows_set hyk]
          exact perm_by (fun kk => match kk with | 0 => [(xb, ob (rnC regs vb vo ev s1.r bv lv) 96)] | 1 => [(ob1, ob [.int .i64 o.k, .int .i64 o.d, .int .i64 o.e, .int .i64 o.a, .int .i64 o.b, .int .i64 o.c, .int .i64 o.buf, .int .u64 o.imm] 39)] | 2 => osC 47 h1.y [] | 3 => rowsHp (h1.ys.take o.buf.toNat) | 4 => osC 37 (osSet yk (n.toNat * 1 + 0) (.int .u64 (rAt s1.r o.b))) [] | 5 => rowsHp (h1.ys.drop (o.buf.toNat + 1)) | _ => osC 55 h1.ly []) [0, 1, 2, 3, 4, 5, 6] [4, 1, 0, 2, 3, 5, 6] (by simp) (by simp)
        have hr3 : (s1.r).length = 64 := hr64
        have hrun : LRun ⟨s1.r, (s1.bufs.set o.buf.toNat (row.set n.toNat (rAt s1.r o.b))), s1.l⟩ ({ h1 with ys := h1.ys.set o.buf.toNat (osSet yk (n.toNat * 1 + 0) (.int .u64 (rAt s1.r o.b))) } : HG) := g1.row hrow hyk hvW2
        have h69 : 69 < (rnC regs vb vo ev s1.r bv lv).length := by rw [rn_len hr3]; decide
        have hll : s1.l.length ≤ 16777216 := by omega
        repeat' (first | refine L.convI (hz := hcw) (c := ?_) | refine C.region ?_ | refine D.seq ?_ | refine L.move (k := ?_) | refine L.fieldAddr (c := ?_) | refine L.build (c := ?_) | refine L.nilCheck (k := ?_) | refine L.buildS (c := fun _ => ?_) | refine L.loadK 0 (rn_l hr3) rfl (c := ?_))
        rename_i vb1
        refine L.appendU ((vb1, ob [int (j : Int), int n] 55) :: (xb, ob (rnC regs vb vo ev s1.r bv lv) 96) :: (ob1, ob [.int .i64 o.k, .int .i64 o.d, .int .i64 o.e, .int .i64 o.a, .int .i64 o.b, .int .i64 o.c, .int .i64 o.buf, .int .u64 o.imm] 39) :: (osC 47 h1.y [] ++ rowsHp (h1.ys.set o.buf.toNat (osSet yk (n.toNat * 1 + 0) (.int .u64 (rAt s1.r o.b)))))) (L2 := []) (u := .slice (some ⟨vb1, 0, none⟩) 1 1) (k := 1) (news := [int (j : Int), int n]) gl (by simp) (fun w hw => Rd.own (hw.holds _ List.mem_cons_self) (by simp) (Nat.le_refl _) 2 rfl) rfl (by intro u hu; simp at hu; rcases hu with rfl | rfl <;> rfl) (by unfold maxLen; omega) (by omega) (hx := by rw [hlv]; exact rfl) (c := fun y' hG' _ => ?_)
        repeat' (first | refine L.storeK 1 h69 rfl (hc := osV_cells _ _) (h1 := oneB_os _ _) (hM := rn_hset1 _ _ xb regs vb vo ev bv lv _ _ hr3) (c := ?_) | refine C.goto ?_ | refine D.thenGoto ?_ | refine D.blkGoto ?_ | refine C.seq ?_ | refine C.region ?_ | refine L.nil ?_ | refine D.seq ?_ | refine L.move (k := ?_) | refine L.assign (k := ?_) | refine L.ar (c := ?_) | refine L.fieldAddr (c := ?_) | refine L.nilCheck (k := ?_) | refine D.blkNormal ?_ | refine D.seqR (h := ?_))
        refine D.perm (M' := (vb1, ob [int (j : Int), int n] 55) :: (ob1, ob [.int .i64 o.k, .int .i64 o.d, .int .i64 o.e, .int .i64 o.a, .int .i64 o.b, .int .i64 o.c, .int .i64 o.buf, .int .u64 o.imm] 39) :: lrHp xb regs vb vo ev ⟨s1.r, (s1.bufs.set o.buf.toNat (row.set n.toNat (rAt s1.r o.b))), s1.l ++ [⟨j, n⟩]⟩ { ({ h1 with ys := h1.ys.set o.buf.toNat (osSet yk (n.toNat * 1 + 0) (.int .u64 (rAt s1.r o.b))) } : HG) with ly := y' }) ?_ ?_
        · rw [lrHp_eq xb regs vb vo ev _ _ (bv := bv) (lv := osV (s1.l.length + 1) y') (by first | exact hbv | (simp only [List.length_set]; exact hbv)) (by simp only [List.length_append, List.length_singleton])]
          exact perm_by (fun kk => match kk with | 0 => [(vb1, ob [int (j : Int), int n] 55)] | 1 => [(ob1, ob [.int .i64 o.k, .int .i64 o.d, .int .i64 o.e, .int .i64 o.a, .int .i64 o.b, .int .i64 o.c, .int .i64 o.buf, .int .u64 o.imm] 39)] | 2 => [(xb, ob (rnC regs vb vo ev s1.r bv (osV (s1.l.length + 1) y')) 96)] | 3 => osC 47 h1.y [] | 4 => rowsHp (h1.ys.set o.buf.toNat (osSet yk (n.toNat * 1 + 0) (.int .u64 (rAt s1.r o.b)))) | _ => osC 55 y' []) [0, 1, 2, 3, 4, 5] [0, 2, 1, 3, 4, 5] (by simp) (by simp)
        refine D.jump fun a1 w1 hs => ⟨(r, j + 1, ⟨s1.r, (s1.bufs.set o.buf.toNat (row.set n.toNat (rAt s1.r o.b))), s1.l ++ [⟨j, n⟩]⟩, { ({ h1 with ys := h1.ys.set o.buf.toNat (osSet yk (n.toNat * 1 + 0) (.int .u64 (rAt s1.r o.b))) } : HG) with ly := y' }), ⟨hqx, hrun.ev (e := ⟨j, n⟩) hG', ⟨_, hrS⟩, ⟨_, hd2⟩, by simp only; omega, by simp only [List.length_set]; exact hB1, by simp only [List.length_append, List.length_singleton]; omega, by simp only; omega⟩, by simp only [Pg.flat, List.length_cons]; omega, hs.lessD 2 rfl (lk_cons rfl (lk_cons rfl (lk_cons rfl (fun _ _ h => lk_nil h))))⟩

  | loop o b r =>
    obtain ⟨hf, h16, hdn, hbS, hrS⟩ := hS1
    have hd1x : os.drop j = o :: (b.flat ++ (endO :: (r.flat ++ rest1))) := by rw [hd1]; simp [Pg.flat]
    obtain ⟨e1, hlt, hd2, ho⟩ := opAt_drop hd1x
    obtain ⟨f1, f2⟩ := stk_flat b _ (j + 1) _ hbS hd2
    obtain ⟨u1, u2, u3, u4⟩ := opAt_drop f2
    have est : stkAt os (j + 1) = stkAt os j ++ [j] := by rw [stk_succ ho]; unfold stkF; rw [if_pos (cm_yes h16)]
    have hma : matchAt os (j + 1 + b.flat.length) = j := by unfold matchAt; rw [f1, est]; simp
    have hee := eRun_loop u2 (by rw [u1]; rfl) hma hsk os.length (Nat.le_refl _) u2
    have hecell : ((eRun os os.length).map int)[j * 1 + 0]? = some (.int .i64 ((j + 1 + b.flat.length : Nat) : Int)) := int_at hee
    have him := loop_imm hf h16
    obtain ⟨imm, himm⟩ : ∃ imm : Nat, o.imm = imm := ⟨o.imm.toNat, by omega⟩
    have hdr := rf_makes hf o.d (by rw [makes_loop h16]; simp)
    simp only [Pg.flat, List.length_cons, List.length_append, Pg.cnt] at hlen hc1 hN1
    have k1 : cm .eql (j : Int) ((i + p.flat.length : Nat) : Int) = false := cm_no (by omega)
    have k16 : cm .eql o.k 16 = true := cm_yes h16
    have kj : ar .add .i64 (j : Int) 1 = ((j + 1 : Nat) : Int) := wrap_nat (by omega)
    have ke : ar .add .i64 ((j + 1 + b.flat.length : Nat) : Int) 1 = ((j + b.flat.length + 2 : Nat) : Int) := by
      show IntKind.i64.wrap _ = _
      rw [wrap_nat (by omega)]; omega
    have o2 := hr.1.2 (by omega)
    have oe := hr.2.2 (by omega)
    obtain ⟨ha0, hal⟩ := flat_at encO_len ho
    have ha := ha0.trans (encO_ex o)
    obtain ⟨F, hF⟩ : ∃ F : Nat → RS → RS × Bool, (fun (n : Nat) (s : RS) => b.exec (j + 1) ⟨s.r.set o.d.toNat n, s.bufs, s.l ++ [⟨j, -1⟩]⟩) = F := ⟨_, rfl⟩
    have hFx : ∀ (n : Nat) (s : RS), F n s = b.exec (j + 1) ⟨s.r.set o.d.toNat n, s.bufs, s.l ++ [⟨j, -1⟩]⟩ := fun n s => by rw [← hF]
    have hqe : (match iter F 0 imm s1 with
      | (s', false) => (s', false)
      | (s', true) => r.exec (j + b.flat.length + 2) s') = p.exec i s := by rw [← hq, ← hF]; simp only [Pg.exec, himm, Int.toNat_natCast]; rfl
    rw [himm, Int.toNat_natCast] at hc1
    rw [hHp]
    repeat' (first | refine C.seq ?_ | refine C.region ?_ | refine L.nil ?_ | refine D.seq ?_ | refine L.move (k := ?_) | refine L.assign (k := ?_) | refine L.cm (c := ?_) | refine L.fieldAddr (c := ?_) | refine L.load1 0 (c := ?_) | refine L.storeV 0 (c := ?_) | refine L.alloc (c := fun _ => ?_) | refine L.nilCheck (k := ?_) | refine C.yes (h1 := ?_) | refine C.no (h1 := ?_) | refine C.block ?_ | refine C.skip ?_ | refine L.indexR s2 hlt (c := ?_) | refine L.loadOA o2 (i := j * 8) (ho := rfl) (hi := hal) (hcs := ha) (c := ?_))
    rename_i ob1
    refine C.loop (α := Nat × RS × HG) (fun z => z.1 ≤ imm ∧ iter F z.1 (imm - z.1) z.2.1 = iter F 0 imm s1 ∧ LRun z.2.1 z.2.2 ∧ z.2.1.bufs.length = bs.length ∧ z.2.1.l.length + ((imm - z.1) * (b.cnt + 1) + r.cnt) ≤ 16777216)
      (fun z => [(0, .pointer (some ⟨xb, 0, none⟩)), (2, .int .i64 ((i + p.flat.length : Nat) : Int)), (7, .int .i64 (j : Int)), (8, .pointer (some ⟨ob1, 0, none⟩)), (65, .int .u64 o.imm), (66, .int .u64 (z.1 : Int))])
      (fun z => (ob1, ob [.int .i64 o.k, .int .i64 o.d, .int .i64 o.e, .int .i64 o.a, .int .i64 o.b, .int .i64 o.c, .int .i64 o.buf, .int .u64 o.imm] 39) :: lrHp xb regs vb vo ev z.2.1 z.2.2) (fun z => imm - z.1) (0, s1, h1) (fun a w hs => hs.lessE (by rw [hHp]) (lk_cons rfl (lk_cons rfl (lk_cons rfl (lk_cons rfl (lk_cons rfl (lk_cons rfl (fun _ _ h => lk_nil h)))))))) ⟨Nat.zero_le _, by simp, g1, hB1, by simpa using hc1⟩ ?_
    rintro ⟨n, t, h1⟩ ⟨hn, hit, g1, hB1, hct⟩
    simp only at hn hit g1 hB1 hct ⊢
    obtain ⟨bv, hbv⟩ : ∃ bv, osV t.bufs.length h1.y = bv := ⟨_, rfl⟩
    obtain ⟨lv, hlv⟩ : ∃ lv, osV t.l.length h1.ly = lv := ⟨_, rfl⟩
    have hHp := lrHp_eq xb regs vb vo ev t h1 hbv hlv
    have hr64 := g1.r
    have gl := g1.l
    rw [hHp]
    rcases Nat.lt_or_ge n imm with hlt2 | hge2
    · have c1 : cm .lss (n : Int) o.imm = true := cm_lo (by omega)
      have kn : ar .add .u64 (n : Int) 1 = ((n + 1 : Nat) : Int) := u64_wrap (by omega)
      obtain ⟨m, hmm⟩ : ∃ m, imm - n = m + 1 := ⟨imm - n - 1, by omega⟩
      rw [hmm] at hit hct
      have hmc : (m + 1) * (b.cnt + 1) = m * (b.cnt + 1) + (b.cnt + 1) := by rw [Nat.add_mul, Nat.one_mul]
      rw [hmc] at hct
      have hdi : o.d = (o.d.toNat : Int) := by omega
      have hdk : o.d.toNat < 64 := by omega
      have hdz : 0 + 4 + o.d.toNat * 1 = 4 + o.d.toNat := by omega
      have hdR : o.d.toNat < t.r.length := by first | omega | (simp only [List.length_set]; omega)
      have hdL : 4 + o.d.toNat < (rnC regs vb vo ev t.r bv lv).length := by rw [rn_len (by first | exact g1.r | (simp only [List.length_set]; exact g1.r))]; omega

      repeat' (first | refine C.seq ?_ | refine C.region ?_ | refine L.nil ?_ | refine D.seq ?_ | refine L.move (k := ?_) | refine L.assign (k := ?_) | refine L.cm (c := ?_) | refine C.yes (h1 := ?_) | refine C.block ?_ | refine C.skip ?_)
      refine C.make ((ob1, ob [.int .i64 o.k, .int .i64 o.d, .int .i64 o.e, .int .i64 o.a, .int .i64 o.b, .int .i64 o.c, .int .i64 o.buf, .int .u64 o.imm] 39) :: (osC 47 h1.y [] ++ (rowsHp h1.ys ++ osC 55 h1.ly []))) (by kernel_rfl) (h := ?_)
      iterate 7 ((refine QP.quiet (v := ?_) (by exact rfl) (by exact rfl) (fun w1 g1 => ?_) ?_; rotate_left); repeat (first | refine L.nil ?_ | refine L.move (k := ?_) | refine L.fieldAddr (c := ?_) | refine L.load1 0 (c := ?_) | refine L.nilCheck (k := ?_) | exact D.endsQ | refine L.indexArr (k := o.d.toNat) hdi hdk (c := ?_)))
      refine QP.mk0 [(xb, ob (rnC regs vb vo ev t.r bv lv) 96)] (fun F B => F = [] ∧ B = [(xb, ob (rnC regs vb vo ev (t.r.set o.d.toNat (n : Int)) bv lv) 96)]) (h := fun w1 g1 => ?_) (k := ?_)
      · simp only [List.cons_append, List.nil_append] at g1 ⊢
        refine L.storeK 0 hdL hdz (hM := rn_hset _ xb regs vb vo ev bv lv _ _ _ hdR) (c := ?_)
        refine L.nil ?_
        exact D.endsP0 [] [(xb, ob (rnC regs vb vo ev (t.r.set o.d.toNat (n : Int)) bv lv) 96)] (hM := rfl) (hF := fun _ _ h => by cases h) (hR := ⟨rfl, rfl⟩)
      refine QP.fin1 [none, none, none, none, none, none, none, some []] 7 (nds := [[], [], [], [], [], [], [], []]) (hM := ?_) (k := ?_)
      · exact List.Perm.swap _ _ _
      rintro F' B ⟨rfl, rfl⟩
      simp only [List.cons_append, List.nil_append]
      have hr3 : (t.r.set o.d.toNat (n : Int)).length = 64 := by simp only [List.length_set]; exact hr64
      have hrun : LRun ⟨t.r.set o.d.toNat (n : Int), t.bufs, t.l⟩ h1 := g1.reg ⟨by omega, by omega⟩
      have h69 : 69 < (rnC regs vb vo ev (t.r.set o.d.toNat (n : Int)) bv lv).length := by rw [rn_len hr3]; decide
      have hll : t.l.length ≤ 16777216 := by omega
      repeat' (first | refine C.seq ?_ | refine C.region ?_ | refine L.move (k := ?_) | refine L.fieldAddr (c := ?_) | refine L.build (c := ?_) | refine L.nilCheck (k := ?_) | refine D.seqR (h := ?_) | refine L.buildS (c := fun _ => ?_) | refine L.loadK 0 (rn_l hr3) rfl (c := ?_))
      rename_i vb1
      refine L.appendU ((vb1, ob [int (j : Int), int (-1)] 55) :: (xb, ob (rnC regs vb vo ev (t.r.set o.d.toNat (n : Int)) bv lv) 96) :: (ob1, ob [.int .i64 o.k, .int .i64 o.d, .int .i64 o.e, .int .i64 o.a, .int .i64 o.b, .int .i64 o.c, .int .i64 o.buf, .int .u64 o.imm] 39) :: (osC 47 h1.y [] ++ rowsHp h1.ys)) (L2 := []) (u := .slice (some ⟨vb1, 0, none⟩) 1 1) (k := 1) (news := [int (j : Int), int (-1)]) gl (by simp) (fun w hw => Rd.own (hw.holds _ List.mem_cons_self) (by simp) (Nat.le_refl _) 2 rfl) rfl (by intro u hu; simp at hu; rcases hu with rfl | rfl <;> rfl) (by unfold maxLen; omega) (by omega) (hx := by rw [hlv]; exact rfl) (c := fun y' hG' _ => ?_)
      repeat' (first | refine L.storeK 1 h69 rfl (hc := osV_cells _ _) (h1 := oneB_os _ _) (hM := rn_hset1 _ _ xb regs vb vo ev bv lv _ _ hr3) (c := ?_) | refine C.seq ?_ | refine C.region ?_ | refine L.nil ?_ | refine D.seq ?_ | refine L.move (k := ?_) | refine L.ar (c := ?_) | refine L.fieldAddr (c := ?_) | refine L.load1 1 (c := ?_) | refine L.nilCheck (k := ?_) | refine L.indexR se hlt (c := ?_) | refine L.loadF oe hecell (c := ?_))
      refine L.perm (M' := (vb1, ob [int (j : Int), int (-1)] 55) :: (ob1, ob [.int .i64 o.k, .int .i64 o.d, .int .i64 o.e, .int .i64 o.a, .int .i64 o.b, .int .i64 o.c, .int .i64 o.buf, .int .u64 o.imm] 39) :: lrHp xb regs vb vo ev ⟨t.r.set o.d.toNat (n : Int), t.bufs, t.l ++ [⟨j, -1⟩]⟩ { h1 with ly := y' }) ?_ ?_
      · rw [lrHp_eq xb regs vb vo ev (⟨t.r.set o.d.toNat (n : Int), t.bufs, t.l ++ [(⟨(j : Int), -1⟩ : Ev)]⟩ : RS) { h1 with ly := y' } (bv := bv) (lv := osV (t.l.length + 1) y') hbv (by simp only [List.length_append, List.length_singleton])]
        exact perm_by (fun kk => match kk with | 0 => [(vb1, ob [int (j : Int), int (-1)] 55)] | 1 => [(ob1, ob [.int .i64 o.k, .int .i64 o.d, .int .i64 o.e, .int .i64 o.a, .int .i64 o.b, .int .i64 o.c, .int .i64 o.buf, .int .u64 o.imm] 39)] | 2 => [(xb, ob (rnC regs vb vo ev (t.r.set o.d.toNat (n : Int)) bv (osV (t.l.length + 1) y')) 96)] | 3 => osC 47 h1.y [] | 4 => rowsHp h1.ys | _ => osC 55 y' []) [0, 1, 2, 3, 4, 5] [0, 2, 1, 3, 4, 5] (by simp) (by simp)
      have kD := ih b.flat.length (by omega) b _ (j + 1) _ ⟨t.r.set o.d.toNat (n : Int), t.bufs, t.l ++ [⟨j, -1⟩]⟩ { h1 with ly := y' } (Nat.le_refl _) hbS hd2 hB1 (by simp only [List.length_append, List.length_singleton]; omega) (hrun.ev (e := ⟨j, -1⟩) hG')
      have hxl := exec_len b (j + 1) ⟨t.r.set o.d.toNat (n : Int), t.bufs, t.l ++ [⟨j, -1⟩]⟩
      refine L.callD 2 kD (hpre := fun w1 hw => ⟨hr.1.base hw _ (fun x hx => by simp [hx]), hr.2.base hw _ (fun x hx => by simp [hx])⟩) (k := ?_)
      rintro u1 B1 ⟨h3, g3, hB3, rfl, rfl⟩
      have hFn := hFx n t
      obtain ⟨⟨t2, ok⟩, hx⟩ : ∃ x, b.exec (j + 1) ⟨t.r.set o.d.toNat (n : Int), t.bufs, t.l ++ [⟨j, -1⟩]⟩ = x := ⟨_, rfl⟩
      rw [hx] at g3 hB3 hFn hxl ⊢
      simp only at g3 hB3 hxl ⊢
      unfold shut
      simp only [List.take_succ_cons, List.take_zero, List.take_nil, List.cons_append, List.nil_append]
      rw [show iter F n (m + 1) t = (match F n t with | (s', false) => (s', false) | (s', true) => iter F (n + 1) m s') from rfl, hFn] at hit
      cases ok with
      | false =>
        simp only at hit
        rw [← hit] at hqe
        simp only at hqe
        repeat' (first | refine D.jumpRet ?_ | refine C.seq ?_ | refine C.region ?_ | refine L.nil ?_ | refine D.seq ?_ | refine L.assign (k := ?_) | refine C.yes (h1 := ?_) | refine L.not (c := ?_) | refine C.ret ?_ | refine D.thenRet ?_ | refine D.blkRet ?_ | refine D.seqR (h := ?_))
        refine D.ret (vs := [_]) (RV.tmp rfl RV.nil) ?_
        intro w' hw
        refine Post.mkD 2 hw rfl ?_
        rw [← hqe]
        exact ⟨h3, g3, hB3, rfl, rfl⟩
      | true =>
        simp only at hit
        have hl2 := hxl.1 rfl
        simp only [List.length_append, List.length_singleton] at hl2
        repeat' (first | refine C.region ?_ | refine L.nil ?_ | refine L.move (k := ?_) | refine L.ar (c := ?_) | refine C.no (h1 := ?_) | refine L.not (c := ?_) | refine D.blkNormal ?_ | refine C.skip ?_ | refine D.seqR (h := ?_))
        refine D.then_ fun a1 w1 hs => ⟨(n + 1, t2, h3), ⟨by simp only; omega, ?_, g3, hB3, ?_⟩, by simp only; omega, hs.lessD 1 rfl (lk_cons rfl (lk_cons rfl (lk_cons rfl (lk_cons rfl (lk_cons rfl (lk_cons rfl (fun _ _ h => lk_nil h)))))))⟩
        · simp only; rw [show imm - (n + 1) = m by omega]; exact hit
        · simp only; rw [show imm - (n + 1) = m by omega]; omega
    · have c1 : cm .lss (n : Int) o.imm = false := cm_lo' (by omega)
      have hni : n = imm := by omega
      rw [hni, Nat.sub_self] at hit hct
      rw [show iter F imm 0 t = (t, true) from rfl] at hit
      rw [← hit] at hqe
      simp only at hqe
      repeat' (first | refine C.goto ?_ | refine D.thenGoto ?_ | refine D.blkGoto ?_ | refine C.seq ?_ | refine C.region ?_ | refine L.nil ?_ | refine D.seq ?_ | refine L.move (k := ?_) | refine L.assign (k := ?_) | refine L.cm (c := ?_) | refine L.ar (c := ?_) | refine L.fieldAddr (c := ?_) | refine L.load1 1 (c := ?_) | refine L.nilCheck (k := ?_) | refine C.no (h1 := ?_) | refine C.exit ?_ | refine D.thenExit ?_ | refine D.blkExit ?_ | refine D.seqR (h := ?_) | refine L.indexR se hlt (c := ?_) | refine L.loadF oe hecell (c := ?_))
      refine D.jump fun a1 w1 hs => ⟨(r, j + b.flat.length + 2, t, h1), ⟨hqe, g1, ⟨_, hrS⟩, ⟨rest1, by rw [show j + b.flat.length + 2 = j + 1 + b.flat.length + 1 by omega]; exact u3⟩, by simp only; omega, hB1, by simp only; omega, by simp only; omega⟩, by simp only [Pg.flat, List.length_cons, List.length_append]; omega, hs.lessD 1 (by rw [hHp]; rfl) (lk_cons rfl (lk_cons rfl (lk_cons rfl (fun _ _ h => lk_nil h))))⟩
end Go.Proofs.Ytkjlgapkcdcmgaa
