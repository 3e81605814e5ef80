/- limb's checker: an operation. -/
import Derived.Test.YtkjlgapkcdcmgaaLk10
set_option linter.unusedVariables false
set_option linter.unusedSimpArgs false
namespace Go.Proofs.Ytkjlgapkcdcmgaa
open Go Go.RowKit SL
attribute [local irreducible] SL.L SL.C SL.D SL.N SL.H SL.QL SL.QW SL.QP

theorem makes_filter {regs : Int} {bs : List Bf} {o : Lop} (h : rfields regs bs o = true) : makesM o = [o.d, o.e].filter (fun r => cm .geq r 0) := by
  obtain ⟨h1, h2⟩ := rf_bad h
  have hk := kinds h1
  clear h h1
  rcases hk with hk | hk | hk | hk | hk | hk | hk | hk | hk | hk | hk | hk | hk | hk | hk | hk | hk
  all_goals (simp [rbad, fieldM, cm, hasE, mem, makesM, hk] at h2 ⊢; simp [List.filter_cons, h2])
theorem takes_filter {regs : Int} {bs : List Bf} {o : Lop} (h : rfields regs bs o = true) : takesM o = [o.a, o.b, o.c].filter (fun r => cm .geq r 0) := by
  obtain ⟨h1, h2⟩ := rf_bad h
  have hk := kinds h1
  clear h h1
  rcases hk with hk | hk | hk | hk | hk | hk | hk | hk | hk | hk | hk | hk | hk | hk | hk | hk | hk
  all_goals (simp [rbad, fieldM, cm, hasE, mem, takesM, hk] at h2 ⊢; try (simp [List.filter_cons, h2]); try (by_cases ha : o.a = -1 <;> simp [ha] at h2 ⊢ <;> simp [List.filter_cons, h2]))
theorem any_filter {p q : Int → Bool} (l : List Int) : (l.filter q).any p = l.any (fun r => q r && p r) := by
  induction l with
  | nil => rfl
  | cons x l ih => rw [List.filter_cons]; cases hq : q x <;> simp [hq, ih]
theorem putM_filter (l : List Int) : ∀ md : List Bool, putM true md l = setAll md (l.filter (fun r => cm .geq r 0)) := by
  induction l with
  | nil => intro md; rfl
  | cons x l ih =>
    intro md
    show putM true (if cm .geq x 0 then md.set x.toNat true else md) l = _
    rw [ih, List.filter_cons]; cases cm .geq x 0 <;> rfl
theorem ck_hset0 {b T : Nat} {regs : Int} {vb vo : Value} {md : List Bool} {lv lv' : Value} {Z : Hp} (h : md.length = 64) : hset ((b, ob (ckCells regs vb vo md lv) T) :: Z) 0 (ob ((ckCells regs vb vo md lv).set 67 lv') T) = (b, ob (ckCells regs vb vo md lv') T) :: Z := by
  simp only [hset]; rw [ck_setL h]
theorem ck_hset1 {b T : Nat} {regs : Int} {vb vo : Value} {md : List Bool} {lv lv' : Value} {x : Nat × Obj} {Z : Hp} (h : md.length = 64) : hset (x :: (b, ob (ckCells regs vb vo md lv) T) :: Z) 1 (ob ((ckCells regs vb vo md lv).set 67 lv') T) = x :: (b, ob (ckCells regs vb vo md lv') T) :: Z := by
  simp only [hset]; rw [ck_setL h]
theorem perm_op {α : Type} (a b c d : α) (Y : List α) : (a :: b :: c :: d :: Y).Perm ((Y ++ [b]) ++ [a, c, d]) := by
  have h1 : (a :: b :: c :: d :: Y).Perm (b :: a :: c :: d :: Y) := List.Perm.swap _ _ _
  have h2 : ([b, a, c, d] ++ Y).Perm (Y ++ [b, a, c, d]) := List.perm_append_comm
  have h3 : Y ++ [b, a, c, d] = (Y ++ [b]) ++ [a, c, d] := by simp
  rw [← h3]; exact h1.trans h2
theorem perm_op2 {α : Type} (x a b c d : α) (Y : List α) : (x :: a :: b :: c :: d :: Y).Perm ((d :: x :: Y) ++ [a, b, c]) := by
  have h1 : ([x, a, b, c] ++ d :: Y).Perm (d :: ([x, a, b, c] ++ Y)) := List.perm_middle
  refine h1.trans (List.Perm.cons _ ?_)
  exact List.Perm.cons _ (List.perm_append_comm (l₁ := [a, b, c]))
/-- What op hands back, and leaves. -/
def opR (b : Nat) (regs : Int) (vb vo : Value) (bs : List Bf) (c : Ck) (o : Lop) : Value → Hp → Prop := fun v B =>
  match rstep regs bs c o with
  | .inl e => v = shut [.int .i64 e] ∧ B = []
  | .inr c' => v = shut [.int .i64 0] ∧ ∃ y', osG 1 c'.loops.length (c'.loops.map int) y' ∧ B = (b, ob (ckCells regs vb vo c'.made (osV c'.loops.length y')) 103) :: osC 3 y' []
theorem opR_bad {b : Nat} {regs : Int} {vb vo : Value} {bs : List Bf} {c : Ck} {o : Lop} {e : Int} (h : rstep regs bs c o = .inl e) : opR b regs vb vo bs c o (shut [.int .i64 e]) [] := by
  unfold opR; rw [h]; exact ⟨rfl, rfl⟩
theorem opR_ok {b : Nat} {regs : Int} {vb vo : Value} {bs : List Bf} {c c' : Ck} {o : Lop} {y' : OS} (h : rstep regs bs c o = .inr c') (hG : osG 1 c'.loops.length (c'.loops.map int) y') :
    opR b regs vb vo bs c o (shut [.int .i64 0]) ((b, ob (ckCells regs vb vo c'.made (osV c'.loops.length y')) 103) :: osC 3 y' []) := by
  unfold opR; rw [h]; exact ⟨rfl, y', hG, rfl⟩
set_option maxHeartbeats 4000000 in
theorem op_bad1 (b : Nat) (regs : Int) (vb vo : Value) (bs : List Bf) (c : Ck) (o : Lop) (y : OS) (hrg : regs ≤ 64) (hmd : c.made.length = 64) (hG : osG 1 c.loops.length (c.loops.map int) y) (hlp : c.loops.length ≤ 8) (hlr : ∀ r ∈ c.loops, 0 ≤ r ∧ r < regs) (hf : rfields regs bs o = false) :
    Ctr Try.prog 68 [.pointer (some ⟨b, 0, none⟩), aggO o] ((b, ob (ckCells regs vb vo c.made (osV c.loops.length y)) 103) :: osC 3 y []) (fun w => Rd w (keys ((b, ob (ckCells regs vb vo c.made (osV c.loops.length y)) 103) :: osC 3 y [])) vb bs.length (bs.flatMap encB)) (opR b regs vb vo bs c o) := by
  refine Ctr.enter Try.func68 Try.ntmps68 rfl rfl (fun w hr => ?_)
  have F := lfields_S regs vb vo bs o
  rw [f_same, hf] at F
  unfold aggO
  repeat' (first | refine C.seq ?_ | refine C.region ?_ | refine L.nil ?_ | refine D.seq ?_ | refine L.assign (k := ?_) | refine L.box (c := fun _ => ?_) | refine L.loadA 1 (hv := ck_ble 3 (by decide) hmd) (hl := ck_head) (c := ?_) | refine L.callQ F (hpre := fun w hw => hr.at hw) (k := ?_) | refine L.loadK 1 (ck_loops hmd) rfl (c := ?_) | refine L.lenR hG.sl (c := ?_))
  refine C.quiet (h := ?_)
  repeat' (first | refine C.seq ?_ | refine C.region ?_ | refine L.nil ?_ | refine D.seq ?_ | refine L.move (k := ?_) | refine L.assign (k := ?_) | refine L.fieldAddr (c := ?_) | refine L.loadA 0 (c := ?_) | refine L.nilCheck (k := ?_) | refine C.yes (h1 := ?_) | refine L.not (c := ?_) | refine C.ret ?_ | refine D.thenRet ?_ | exact D.endsQ | refine QL.fin ?_ | (refine QL.step (v := ?_) (by exact rfl) (by exact rfl) ?_ ?_; rotate_left) | refine L.loadA 1 (hv := ck_ble 3 (by decide) hmd) (hl := ck_head) (c := ?_) | refine L.callQ F (hpre := fun w hw => hr.at hw) (k := ?_) | refine L.loadK 1 (ck_loops hmd) rfl (c := ?_) | refine L.lenR hG.sl (c := ?_))
  (refine D.ret (vs := [_]) (RV.tmp rfl RV.nil) ?_; intro w' hw; exact Post.mk (is := []) hw List.nodup_nil rfl (opR_bad (by simp [rstep, hf])))
set_option maxHeartbeats 8000000 in
theorem op_end (b : Nat) (regs : Int) (vb vo : Value) (bs : List Bf) (c : Ck) (o : Lop) (y : OS) (hrg : regs ≤ 64) (hmd : c.made.length = 64) (hG : osG 1 c.loops.length (c.loops.map int) y) (hlp : c.loops.length ≤ 8) (hlr : ∀ r ∈ c.loops, 0 ≤ r ∧ r < regs) (hf : rfields regs bs o = true) (hk : o.k = 17) :
    Ctr Try.prog 68 [.pointer (some ⟨b, 0, none⟩), aggO o] ((b, ob (ckCells regs vb vo c.made (osV c.loops.length y)) 103) :: osC 3 y []) (fun w => Rd w (keys ((b, ob (ckCells regs vb vo c.made (osV c.loops.length y)) 103) :: osC 3 y [])) vb bs.length (bs.flatMap encB)) (opR b regs vb vo bs c o) := by
  refine Ctr.enter Try.func68 Try.ntmps68 rfl rfl (fun w hr => ?_)
  have F := lfields_S regs vb vo bs o
  rw [f_same, hf] at F
  unfold aggO
  have ce : cm .eql o.k 17 = true := cm_yes hk
  repeat' (first | refine C.seq ?_ | refine C.region ?_ | refine L.nil ?_ | refine D.seq ?_ | refine L.assign (k := ?_) | refine L.box (c := fun _ => ?_) | refine L.loadA 1 (hv := ck_ble 3 (by decide) hmd) (hl := ck_head) (c := ?_) | refine L.callQ F (hpre := fun w hw => hr.at hw) (k := ?_) | refine L.loadK 1 (ck_loops hmd) rfl (c := ?_) | refine L.lenR hG.sl (c := ?_))
  refine C.quiet (h := ?_)
  rcases List.eq_nil_or_concat c.loops with hl | ⟨ini, r, hl⟩
  · have c3 : cm .eql (c.loops.length : Int) 0 = true := cm_yes (by rw [hl]; rfl)
    repeat' (first | refine C.seq ?_ | refine C.region ?_ | refine L.nil ?_ | refine D.seq ?_ | refine L.move (k := ?_) | refine L.assign (k := ?_) | refine L.cm (c := ?_) | refine L.fieldAddr (c := ?_) | refine L.load1 0 (c := ?_) | refine L.loadA 0 (c := ?_) | refine L.nilCheck (k := ?_) | refine C.yes (h1 := ?_) | refine C.no (h1 := ?_) | refine L.not (c := ?_) | refine C.ret ?_ | refine D.thenRet ?_ | refine C.skip ?_ | exact D.endsQ | refine QL.fin ?_ | (refine QL.step (v := ?_) (by exact rfl) (by exact rfl) ?_ ?_; rotate_left) | refine L.loadA 1 (hv := ck_ble 3 (by decide) hmd) (hl := ck_head) (c := ?_) | refine L.callQ F (hpre := fun w hw => hr.at hw) (k := ?_) | refine L.loadK 1 (ck_loops hmd) rfl (c := ?_) | refine L.lenR hG.sl (c := ?_))
    (refine D.ret (vs := [_]) (RV.tmp rfl RV.nil) ?_; intro w' hw; exact Post.mk (is := []) hw List.nodup_nil rfl (opR_bad (by simp [rstep, hf, ce, hl])))
  · rw [List.concat_eq_append] at hl
    have hll : c.loops.length = ini.length + 1 := by rw [hl]; simp
    have c3 : cm .eql (c.loops.length : Int) 0 = false := cm_no (by omega)
    have c4 : ar .sub .i64 (c.loops.length : Int) 1 = (ini.length : Int) := by
      show IntKind.i64.wrap _ = _
      rw [wrap_nat (by omega)]; omega
    have hr0 : 0 ≤ r ∧ r < regs := hlr r (by rw [hl]; simp)
    have hlk : c.loops[ini.length]? = some r := by rw [hl]; simp
    repeat' (first | refine C.seq ?_ | refine C.region ?_ | refine L.nil ?_ | refine D.seq ?_ | refine L.move (k := ?_) | refine L.assign (k := ?_) | refine L.cm (c := ?_) | refine L.ar (c := ?_) | refine L.fieldAddr (c := ?_) | refine L.load1 0 (c := ?_) | refine L.loadA 0 (c := ?_) | refine L.nilCheck (k := ?_) | refine C.yes (h1 := ?_) | refine C.no (h1 := ?_) | refine L.not (c := ?_) | refine C.skip ?_ | exact D.endsQ | refine QL.fin ?_ | (refine QL.step (v := ?_) (by exact rfl) (by exact rfl) ?_ ?_; rotate_left) | refine L.loadA 1 (hv := ck_ble 3 (by decide) hmd) (hl := ck_head) (c := ?_) | refine L.callQ F (hpre := fun w hw => hr.at hw) (k := ?_) | refine L.loadK 1 (ck_loops hmd) rfl (c := ?_) | refine L.lenR hG.sl (c := ?_))
    rename_i xb
    refine C.make ((xb, ob [.int .i64 o.k, .int .i64 o.d, .int .i64 o.e, .int .i64 o.a, .int .i64 o.b, .int .i64 o.c, .int .i64 o.buf, .int .u64 o.imm] 39) :: osC 3 y []) (by kernel_rfl) (h := ?_)
    iterate 6 ((refine QP.quiet (v := ?_) (by exact rfl) (by exact rfl) (fun w1 g1 => ?_) ?_; rotate_left); repeat (first | refine L.nil ?_ | refine L.move (k := ?_) | refine L.fieldAddr (c := ?_) | refine L.nilCheck (k := ?_) | exact D.endsQ | refine L.loadA 1 (hv := ck_ble 3 (by decide) hmd) (hl := ck_head) (c := ?_) | refine L.callQ F (hpre := fun w hw => hr.at hw) (k := ?_) | refine L.loadK 1 (ck_loops hmd) rfl (c := ?_) | refine L.lenR hG.sl (c := ?_) | refine L.indexR hG.sl (k := ini.length) (by omega) (c := ?_) | refine L.loadU [_] (i := ini.length) (j := 0) hG rfl (by omega) (by decide) (int_at hlk) (hb := rfl) (ho := rfl) (c := ?_)))
    (refine QP.quietI (v := ?_) [11] [(b, ob (ckCells regs vb vo c.made (osV c.loops.length y)) 103)] (by exact rfl) (by exact rfl) (fun w1 g1 => ?_) ?_; rotate_left); simp only [List.take_succ_cons, List.take_zero, List.take_nil, List.cons_append, List.nil_append]; repeat (first | refine L.nil ?_ | exact D.endsQ | refine L.loadA 1 (hv := ck_ble 3 (by decide) hmd) (hl := ck_head) (c := ?_) | refine L.callQ F (hpre := fun w hw => hr.at hw) (k := ?_) | refine L.loadK 1 (ck_loops hmd) rfl (c := ?_) | refine L.lenR hG.sl (c := ?_) | refine L.loadK 0 (ck_loops hmd) rfl (c := ?_))
    iterate 3 ((refine QP.quiet (v := ?_) (by exact rfl) (by exact rfl) (fun w1 g1 => ?_) ?_; rotate_left); repeat (first | refine L.nil ?_ | refine L.move (k := ?_) | exact D.endsQ | refine L.loadA 1 (hv := ck_ble 3 (by decide) hmd) (hl := ck_head) (c := ?_) | refine L.callQ F (hpre := fun w hw => hr.at hw) (k := ?_) | refine L.loadK 1 (ck_loops hmd) rfl (c := ?_) | refine L.lenR hG.sl (c := ?_) | refine L.indexR hG.sl (k := ini.length) (by omega) (c := ?_) | refine L.loadU [_] (i := ini.length) (j := 0) hG rfl (by omega) (by decide) (int_at hlk) (hb := rfl) (ho := rfl) (c := ?_)))
    refine QP.mk0 [] (fun F B => ∃ nb, F = [(39, .slice (some ⟨nb, 0, none⟩) 1 1)] ∧ B = [(nb, ob [int r] 3)]) (h := fun w1 g1 => ?_) (k := ?_)
    · rw [List.nil_append]
      repeat (first | refine L.nil ?_ | refine L.buildS (c := fun _ => ?_) | refine L.loadA 1 (hv := ck_ble 3 (by decide) hmd) (hl := ck_head) (c := ?_) | refine L.callQ F (hpre := fun w hw => hr.at hw) (k := ?_) | refine L.loadK 1 (ck_loops hmd) rfl (c := ?_) | refine L.lenR hG.sl (c := ?_))
      exact D.endsP1 [_] (hR := ⟨_, rfl, rfl⟩)
    refine QP.mk1 10 [(b, ob (ckCells regs vb vo c.made (osV c.loops.length y)) 103)] (fun F B => ∃ nb, F = [(40, shut [])] ∧ B = [(nb, ob [int r] 3), (b, ob (ckCells regs vb vo (putM false c.made [r]) (osV c.loops.length y)) 103)]) (h := ?_) (k := ?_)
    · rintro F B ⟨nb, rfl, rfl⟩ w1 g1
      simp only [List.cons_append, List.nil_append] at g1 ⊢
      refine L.call1 1 (put_S b _ regs vb vo c.made _ false _ [r] hmd (by intro q hq; simp at hq; omega) (by simp)) (hpre := fun w hw => Rd.own (hw.holds _ List.mem_cons_self) (by have := (List.nodup_cons.1 hw.nodup).1; simp [keys] at this ⊢; exact this.1) (Nat.le_refl _) 1 rfl) (k := ?_)
      refine L.nil ?_
      exact D.endsP1 [_, _] (hR := ⟨nb, rfl, rfl⟩)
    refine QP.fin1 [none, none, none, none, none, none, none, none, none, none, some [], some [10]] 11 (nds := [[], [], [], [], [], [], [11], [], [], [], [], []]) (hM := List.Perm.swap _ _ _) (k := ?_)
    rintro F B ⟨nb, rfl, rfl⟩
    simp only [List.cons_append, List.nil_append]
    have hm2 : (putM false c.made [r]).length = 64 := by rw [putM_len, hmd]
    have hk67 : 67 < (ckCells regs vb vo (putM false c.made [r]) (osV c.loops.length y)).length := by rw [ck_len hm2]; decide
    repeat (first | refine C.seq ?_ | refine C.region ?_ | refine L.nil ?_ | refine D.seq ?_ | refine L.move (k := ?_) | refine L.assign (k := ?_) | refine L.fieldAddr (c := ?_) | refine L.nilCheck (k := ?_) | refine C.ret ?_ | refine D.thenRet ?_ | refine D.seqR (h := ?_) | refine L.loadK 1 (ck_loops hm2) rfl (c := ?_) | refine L.cutU hG (k := ini.length) (by omega) ⟨_, _, rfl, rfl⟩ (c := fun hG' => ?_) | refine L.storeK 1 hk67 rfl (hc := osV_cells _ _) (h1 := oneB_os _ _) (hM := ck_hset1 hm2) (c := ?_))
    have hst : rstep regs bs c o = .inr ⟨putM false c.made [r], ini⟩ := by
      simp only [rstep, hf, ce, hl, if_true]; simp [putM, show cm .geq r 0 = true from cm_ge hr0.1]
    (refine D.ret (vs := [_]) (RV.tmp rfl RV.nil) ?_; intro w' hw; refine Post.mkD 2 (hw.perm (M' := (nb, _) :: (xb, _) :: (b, _) :: osC 3 y []) (List.Perm.cons _ (List.Perm.swap _ _ _))) rfl (opR_ok (y' := y) hst ?_))
    rw [hl] at hG'
    simpa using hG'
set_option maxHeartbeats 8000000 in
theorem op_in1 (b : Nat) (regs : Int) (vb vo : Value) (bs : List Bf) (c : Ck) (o : Lop) (y : OS) (hrg : regs ≤ 64) (hmd : c.made.length = 64) (hG : osG 1 c.loops.length (c.loops.map int) y) (hlp : c.loops.length ≤ 8) (hlr : ∀ r ∈ c.loops, 0 ≤ r ∧ r < regs) (hf : rfields regs bs o = true) (hk : o.k ≠ 17) (hid : (cm .geq o.d 0 && c.loops.contains o.d) = true) (bb : Bool) (hie : (cm .geq o.e 0 && c.loops.contains o.e) = bb) :
    Ctr Try.prog 68 [.pointer (some ⟨b, 0, none⟩), aggO o] ((b, ob (ckCells regs vb vo c.made (osV c.loops.length y)) 103) :: osC 3 y []) (fun w => Rd w (keys ((b, ob (ckCells regs vb vo c.made (osV c.loops.length y)) 103) :: osC 3 y [])) vb bs.length (bs.flatMap encB)) (opR b regs vb vo bs c o) := by
  refine Ctr.enter Try.func68 Try.ntmps68 rfl rfl (fun w hr => ?_)
  have F := lfields_S regs vb vo bs o
  rw [f_same, hf] at F
  unfold aggO
  have ce : cm .eql o.k 17 = false := cm_no hk
  have I1 := cin_S b regs vb vo c.made (osV c.loops.length y) c.loops o.d hmd (by omega)
  have I2 := cin_S b regs vb vo c.made (osV c.loops.length y) c.loops o.e hmd (by omega)
  rw [hid] at I1
  rw [hie] at I2
  have hpre : ∀ w1 X, At w (keys ((b, ob (ckCells regs vb vo c.made (osV c.loops.length y)) 103) :: osC 3 y [])) (X :: (b, ob (ckCells regs vb vo c.made (osV c.loops.length y)) 103) :: osC 3 y []) w1 → Old w1 [] b 0 (ckCells regs vb vo c.made (osV c.loops.length y)) ∧ Rd w1 [] (osV c.loops.length y) c.loops.length (c.loops.map int) := fun w1 X hw => ⟨Old.own (hw.holds (b, ob (ckCells regs vb vo c.made (osV c.loops.length y)) 103) (by simp)) (by simp) _ List.take_length, hG.rd (L1 := [_, _]) (L2 := []) hw⟩
  repeat' (first | refine C.seq ?_ | refine C.region ?_ | refine L.nil ?_ | refine D.seq ?_ | refine L.assign (k := ?_) | refine L.box (c := fun _ => ?_) | refine L.loadA 1 (hv := ck_ble 3 (by decide) hmd) (hl := ck_head) (c := ?_) | refine L.callQ F (hpre := fun w hw => hr.at hw) (k := ?_) | refine L.loadK 1 (ck_loops hmd) rfl (c := ?_) | refine L.lenR hG.sl (c := ?_))
  refine C.quiet (h := ?_)
  repeat' (first | refine C.seq ?_ | refine C.region ?_ | refine L.nil ?_ | refine D.seq ?_ | refine L.move (k := ?_) | refine L.assign (k := ?_) | refine L.cm (c := ?_) | refine L.fieldAddr (c := ?_) | refine L.load1 0 (c := ?_) | refine L.loadA 0 (c := ?_) | refine L.nilCheck (k := ?_) | refine C.no (h1 := ?_) | refine L.not (c := ?_) | refine C.block ?_ | refine C.skip ?_ | exact D.endsQ | refine QL.fin ?_ | (refine QL.step (v := ?_) (by exact rfl) (by exact rfl) ?_ ?_; rotate_left) | refine L.loadA 1 (hv := ck_ble 3 (by decide) hmd) (hl := ck_head) (c := ?_) | refine L.callQ F (hpre := fun w hw => hr.at hw) (k := ?_) | refine L.loadK 1 (ck_loops hmd) rfl (c := ?_) | refine L.lenR hG.sl (c := ?_))
  refine C.quiet (h := ?_)
  repeat' (first | refine C.seq ?_ | refine C.region ?_ | refine L.nil ?_ | refine D.seq ?_ | refine L.move (k := ?_) | refine L.assign (k := ?_) | refine L.fieldAddr (c := ?_) | refine L.load1 0 (c := ?_) | refine C.yes (h1 := ?_) | refine L.pickT (k := ?_) | refine L.pass (k := ?_) | refine C.ret ?_ | refine D.thenRet ?_ | refine D.blkRet ?_ | refine L.passU (k := ?_) | exact D.endsQ | refine QL.fin ?_ | (refine QL.step (v := ?_) (by exact rfl) (by exact rfl) ?_ ?_; rotate_left) | refine L.loadA 1 (hv := ck_ble 3 (by decide) hmd) (hl := ck_head) (c := ?_) | refine L.callQ F (hpre := fun w hw => hr.at hw) (k := ?_) | refine L.loadK 1 (ck_loops hmd) rfl (c := ?_) | refine L.lenR hG.sl (c := ?_) | refine L.callQ I1 (hpre := fun w1 hw => hpre w1 _ hw) (k := ?_) | refine L.callQ I2 (hpre := fun w1 hw => hpre w1 _ hw) (k := ?_))
  have hany : (makesM o).any (fun r => c.loops.contains r) = true := by
    rw [makes_filter hf, any_filter]; simp only [List.any_cons, List.any_nil, hid, hie]; simp
  (refine D.ret (vs := [_]) (RV.tmp rfl RV.nil) ?_; intro w' hw; exact Post.mk (is := []) hw List.nodup_nil rfl (opR_bad (by simp only [rstep, hf, ce, hany]; rfl)))
set_option maxHeartbeats 8000000 in
theorem op_in2 (b : Nat) (regs : Int) (vb vo : Value) (bs : List Bf) (c : Ck) (o : Lop) (y : OS) (hrg : regs ≤ 64) (hmd : c.made.length = 64) (hG : osG 1 c.loops.length (c.loops.map int) y) (hlp : c.loops.length ≤ 8) (hlr : ∀ r ∈ c.loops, 0 ≤ r ∧ r < regs) (hf : rfields regs bs o = true) (hk : o.k ≠ 17) (hid : (cm .geq o.d 0 && c.loops.contains o.d) = false) (hie : (cm .geq o.e 0 && c.loops.contains o.e) = true) :
    Ctr Try.prog 68 [.pointer (some ⟨b, 0, none⟩), aggO o] ((b, ob (ckCells regs vb vo c.made (osV c.loops.length y)) 103) :: osC 3 y []) (fun w => Rd w (keys ((b, ob (ckCells regs vb vo c.made (osV c.loops.length y)) 103) :: osC 3 y [])) vb bs.length (bs.flatMap encB)) (opR b regs vb vo bs c o) := by
  refine Ctr.enter Try.func68 Try.ntmps68 rfl rfl (fun w hr => ?_)
  have F := lfields_S regs vb vo bs o
  rw [f_same, hf] at F
  unfold aggO
  have ce : cm .eql o.k 17 = false := cm_no hk
  have I1 := cin_S b regs vb vo c.made (osV c.loops.length y) c.loops o.d hmd (by omega)
  have I2 := cin_S b regs vb vo c.made (osV c.loops.length y) c.loops o.e hmd (by omega)
  rw [hid] at I1
  rw [hie] at I2
  have hpre : ∀ w1 X, At w (keys ((b, ob (ckCells regs vb vo c.made (osV c.loops.length y)) 103) :: osC 3 y [])) (X :: (b, ob (ckCells regs vb vo c.made (osV c.loops.length y)) 103) :: osC 3 y []) w1 → Old w1 [] b 0 (ckCells regs vb vo c.made (osV c.loops.length y)) ∧ Rd w1 [] (osV c.loops.length y) c.loops.length (c.loops.map int) := fun w1 X hw => ⟨Old.own (hw.holds (b, ob (ckCells regs vb vo c.made (osV c.loops.length y)) 103) (by simp)) (by simp) _ List.take_length, hG.rd (L1 := [_, _]) (L2 := []) hw⟩
  repeat' (first | refine C.seq ?_ | refine C.region ?_ | refine L.nil ?_ | refine D.seq ?_ | refine L.assign (k := ?_) | refine L.box (c := fun _ => ?_) | refine L.loadA 1 (hv := ck_ble 3 (by decide) hmd) (hl := ck_head) (c := ?_) | refine L.callQ F (hpre := fun w hw => hr.at hw) (k := ?_) | refine L.loadK 1 (ck_loops hmd) rfl (c := ?_) | refine L.lenR hG.sl (c := ?_))
  refine C.quiet (h := ?_)
  repeat' (first | refine C.seq ?_ | refine C.region ?_ | refine L.nil ?_ | refine D.seq ?_ | refine L.move (k := ?_) | refine L.assign (k := ?_) | refine L.cm (c := ?_) | refine L.fieldAddr (c := ?_) | refine L.load1 0 (c := ?_) | refine L.loadA 0 (c := ?_) | refine L.nilCheck (k := ?_) | refine C.no (h1 := ?_) | refine L.not (c := ?_) | refine C.block ?_ | refine C.skip ?_ | exact D.endsQ | refine QL.fin ?_ | (refine QL.step (v := ?_) (by exact rfl) (by exact rfl) ?_ ?_; rotate_left) | refine L.loadA 1 (hv := ck_ble 3 (by decide) hmd) (hl := ck_head) (c := ?_) | refine L.callQ F (hpre := fun w hw => hr.at hw) (k := ?_) | refine L.loadK 1 (ck_loops hmd) rfl (c := ?_) | refine L.lenR hG.sl (c := ?_))
  refine C.quiet (h := ?_)
  repeat' (first | refine C.seq ?_ | refine C.region ?_ | refine L.nil ?_ | refine D.seq ?_ | refine L.move (k := ?_) | refine L.assign (k := ?_) | refine L.fieldAddr (c := ?_) | refine L.load1 0 (c := ?_) | refine C.yes (h1 := ?_) | refine L.pickT (k := ?_) | refine L.pickF (k := ?_) | refine L.want (k := ?_) | refine L.pass (k := ?_) | refine C.ret ?_ | refine D.thenRet ?_ | refine D.blkRet ?_ | refine L.passU (k := ?_) | exact D.endsQ | refine QL.fin ?_ | (refine QL.step (v := ?_) (by exact rfl) (by exact rfl) ?_ ?_; rotate_left) | refine L.loadA 1 (hv := ck_ble 3 (by decide) hmd) (hl := ck_head) (c := ?_) | refine L.callQ F (hpre := fun w hw => hr.at hw) (k := ?_) | refine L.loadK 1 (ck_loops hmd) rfl (c := ?_) | refine L.lenR hG.sl (c := ?_) | refine L.callQ I1 (hpre := fun w1 hw => hpre w1 _ hw) (k := ?_) | refine L.callQ I2 (hpre := fun w1 hw => hpre w1 _ hw) (k := ?_))
  have hany : (makesM o).any (fun r => c.loops.contains r) = true := by
    rw [makes_filter hf, any_filter]; simp only [List.any_cons, List.any_nil, hid, hie]; rfl
  (refine D.ret (vs := [_]) (RV.tmp rfl RV.nil) ?_; intro w' hw; exact Post.mk (is := []) hw List.nodup_nil rfl (opR_bad (by simp only [rstep, hf, ce, hany]; rfl)))
set_option maxHeartbeats 8000000 in
theorem op_in3 (b : Nat) (regs : Int) (vb vo : Value) (bs : List Bf) (c : Ck) (o : Lop) (y : OS) (hrg : regs ≤ 64) (hmd : c.made.length = 64) (hG : osG 1 c.loops.length (c.loops.map int) y) (hlp : c.loops.length ≤ 8) (hlr : ∀ r ∈ c.loops, 0 ≤ r ∧ r < regs) (hf : rfields regs bs o = true) (hk : o.k ≠ 17) (hid : (cm .geq o.d 0 && c.loops.contains o.d) = false) (hie : (cm .geq o.e 0 && c.loops.contains o.e) = false) (hlp0 : cm .eql o.k 16 = true) (hmdv : mdAt c.made o.d = true) :
    Ctr Try.prog 68 [.pointer (some ⟨b, 0, none⟩), aggO o] ((b, ob (ckCells regs vb vo c.made (osV c.loops.length y)) 103) :: osC 3 y []) (fun w => Rd w (keys ((b, ob (ckCells regs vb vo c.made (osV c.loops.length y)) 103) :: osC 3 y [])) vb bs.length (bs.flatMap encB)) (opR b regs vb vo bs c o) := by
  refine Ctr.enter Try.func68 Try.ntmps68 rfl rfl (fun w hr => ?_)
  have F := lfields_S regs vb vo bs o
  rw [f_same, hf] at F
  unfold aggO
  have ce : cm .eql o.k 17 = false := cm_no hk
  have I1 := cin_S b regs vb vo c.made (osV c.loops.length y) c.loops o.d hmd (by omega)
  have I2 := cin_S b regs vb vo c.made (osV c.loops.length y) c.loops o.e hmd (by omega)
  rw [hid] at I1
  rw [hie] at I2
  have hpre : ∀ w1 X, At w (keys ((b, ob (ckCells regs vb vo c.made (osV c.loops.length y)) 103) :: osC 3 y [])) (X :: (b, ob (ckCells regs vb vo c.made (osV c.loops.length y)) 103) :: osC 3 y []) w1 → Old w1 [] b 0 (ckCells regs vb vo c.made (osV c.loops.length y)) ∧ Rd w1 [] (osV c.loops.length y) c.loops.length (c.loops.map int) := fun w1 X hw => ⟨Old.own (hw.holds (b, ob (ckCells regs vb vo c.made (osV c.loops.length y)) 103) (by simp)) (by simp) _ List.take_length, hG.rd (L1 := [_, _]) (L2 := []) hw⟩
  have hdr : 0 ≤ o.d ∧ o.d < regs := rf_makes hf o.d (by rw [makes_loop (by simpa [cm] using hlp0)]; simp)
  have hdi : o.d = (o.d.toNat : Int) := by omega
  have hdk : o.d.toNat < 64 := by omega
  have hmv : (ckCells regs vb vo c.made (osV c.loops.length y))[3 + o.d.toNat]? = some (.bool true) := by rw [ck_made (mdAt_at (by omega) (by omega)), hmdv]
  have hmo : 0 + 3 + o.d.toNat * 1 = 3 + o.d.toNat := by omega
  repeat' (first | refine C.seq ?_ | refine C.region ?_ | refine L.nil ?_ | refine D.seq ?_ | refine L.assign (k := ?_) | refine L.box (c := fun _ => ?_) | refine L.loadA 1 (hv := ck_ble 3 (by decide) hmd) (hl := ck_head) (c := ?_) | refine L.callQ F (hpre := fun w hw => hr.at hw) (k := ?_) | refine L.loadK 1 (ck_loops hmd) rfl (c := ?_) | refine L.lenR hG.sl (c := ?_))
  refine C.quiet (h := ?_)
  repeat' (first | refine C.seq ?_ | refine C.region ?_ | refine L.nil ?_ | refine D.seq ?_ | refine L.move (k := ?_) | refine L.assign (k := ?_) | refine L.cm (c := ?_) | refine L.fieldAddr (c := ?_) | refine L.load1 0 (c := ?_) | refine L.loadA 0 (c := ?_) | refine L.nilCheck (k := ?_) | refine C.no (h1 := ?_) | refine L.not (c := ?_) | refine C.block ?_ | refine C.skip ?_ | exact D.endsQ | refine QL.fin ?_ | (refine QL.step (v := ?_) (by exact rfl) (by exact rfl) ?_ ?_; rotate_left) | refine L.loadA 1 (hv := ck_ble 3 (by decide) hmd) (hl := ck_head) (c := ?_) | refine L.callQ F (hpre := fun w hw => hr.at hw) (k := ?_) | refine L.loadK 1 (ck_loops hmd) rfl (c := ?_) | refine L.lenR hG.sl (c := ?_))
  refine C.quiet (h := ?_)
  repeat' (first | refine C.seq ?_ | refine C.region ?_ | refine L.nil ?_ | refine D.seq ?_ | refine L.move (k := ?_) | refine L.assign (k := ?_) | refine L.fieldAddr (c := ?_) | refine L.load1 0 (c := ?_) | refine L.nilCheck (k := ?_) | refine C.yes (h1 := ?_) | refine L.pickT (k := ?_) | refine L.pickF (k := ?_) | refine L.want (k := ?_) | refine C.ret ?_ | refine D.thenRet ?_ | refine D.blkRet ?_ | exact D.endsQ | refine QL.fin ?_ | (refine QL.step (v := ?_) (by exact rfl) (by exact rfl) ?_ ?_; rotate_left) | refine L.loadA 1 (hv := ck_ble 3 (by decide) hmd) (hl := ck_head) (c := ?_) | refine L.callQ F (hpre := fun w hw => hr.at hw) (k := ?_) | refine L.loadK 1 (ck_loops hmd) rfl (c := ?_) | refine L.lenR hG.sl (c := ?_) | refine L.callQ I1 (hpre := fun w1 hw => hpre w1 _ hw) (k := ?_) | refine L.callQ I2 (hpre := fun w1 hw => hpre w1 _ hw) (k := ?_) | refine L.indexArr (k := o.d.toNat) hdi hdk (c := ?_) | refine L.loadK 1 hmv hmo (c := ?_))
  have hany : (makesM o).any (fun r => c.loops.contains r) = false := by
    rw [makes_filter hf, any_filter]; simp only [List.any_cons, List.any_nil, hid, hie]; rfl
  (refine D.ret (vs := [_]) (RV.tmp rfl RV.nil) ?_; intro w' hw; exact Post.mk (is := []) hw List.nodup_nil rfl (opR_bad (by simp only [rstep, hf, ce, hany, hlp0, hmdv]; rfl)))
set_option maxHeartbeats 8000000 in
theorem op_full (b : Nat) (regs : Int) (vb vo : Value) (bs : List Bf) (c : Ck) (o : Lop) (y : OS) (hrg : regs ≤ 64) (hmd : c.made.length = 64) (hG : osG 1 c.loops.length (c.loops.map int) y) (hlp : c.loops.length ≤ 8) (hlr : ∀ r ∈ c.loops, 0 ≤ r ∧ r < regs) (hf : rfields regs bs o = true) (hk : o.k ≠ 17) (hid : (cm .geq o.d 0 && c.loops.contains o.d) = false) (hie : (cm .geq o.e 0 && c.loops.contains o.e) = false) (hlp0 : cm .eql o.k 16 = true) (hmdv : mdAt c.made o.d = false) (h8 : cm .eql (c.loops.length : Int) 8 = true) :
    Ctr Try.prog 68 [.pointer (some ⟨b, 0, none⟩), aggO o] ((b, ob (ckCells regs vb vo c.made (osV c.loops.length y)) 103) :: osC 3 y []) (fun w => Rd w (keys ((b, ob (ckCells regs vb vo c.made (osV c.loops.length y)) 103) :: osC 3 y [])) vb bs.length (bs.flatMap encB)) (opR b regs vb vo bs c o) := by
  refine Ctr.enter Try.func68 Try.ntmps68 rfl rfl (fun w hr => ?_)
  have F := lfields_S regs vb vo bs o
  rw [f_same, hf] at F
  unfold aggO
  have ce : cm .eql o.k 17 = false := cm_no hk
  have I1 := cin_S b regs vb vo c.made (osV c.loops.length y) c.loops o.d hmd (by omega)
  have I2 := cin_S b regs vb vo c.made (osV c.loops.length y) c.loops o.e hmd (by omega)
  rw [hid] at I1
  rw [hie] at I2
  have hpre : ∀ w1 X, At w (keys ((b, ob (ckCells regs vb vo c.made (osV c.loops.length y)) 103) :: osC 3 y [])) (X :: (b, ob (ckCells regs vb vo c.made (osV c.loops.length y)) 103) :: osC 3 y []) w1 → Old w1 [] b 0 (ckCells regs vb vo c.made (osV c.loops.length y)) ∧ Rd w1 [] (osV c.loops.length y) c.loops.length (c.loops.map int) := fun w1 X hw => ⟨Old.own (hw.holds (b, ob (ckCells regs vb vo c.made (osV c.loops.length y)) 103) (by simp)) (by simp) _ List.take_length, hG.rd (L1 := [_, _]) (L2 := []) hw⟩
  have hdr : 0 ≤ o.d ∧ o.d < regs := rf_makes hf o.d (by rw [makes_loop (by simpa [cm] using hlp0)]; simp)
  have hdi : o.d = (o.d.toNat : Int) := by omega
  have hdk : o.d.toNat < 64 := by omega
  have hmv : (ckCells regs vb vo c.made (osV c.loops.length y))[3 + o.d.toNat]? = some (.bool false) := by rw [ck_made (mdAt_at (by omega) (by omega)), hmdv]
  have hmo : 0 + 3 + o.d.toNat * 1 = 3 + o.d.toNat := by omega
  repeat' (first | refine C.seq ?_ | refine C.region ?_ | refine L.nil ?_ | refine D.seq ?_ | refine L.assign (k := ?_) | refine L.box (c := fun _ => ?_) | refine L.loadA 1 (hv := ck_ble 3 (by decide) hmd) (hl := ck_head) (c := ?_) | refine L.callQ F (hpre := fun w hw => hr.at hw) (k := ?_) | refine L.loadK 1 (ck_loops hmd) rfl (c := ?_) | refine L.lenR hG.sl (c := ?_))
  refine C.quiet (h := ?_)
  repeat' (first | refine C.seq ?_ | refine C.region ?_ | refine L.nil ?_ | refine D.seq ?_ | refine L.move (k := ?_) | refine L.assign (k := ?_) | refine L.cm (c := ?_) | refine L.fieldAddr (c := ?_) | refine L.load1 0 (c := ?_) | refine L.loadA 0 (c := ?_) | refine L.nilCheck (k := ?_) | refine C.no (h1 := ?_) | refine L.not (c := ?_) | refine C.block ?_ | refine C.skip ?_ | exact D.endsQ | refine QL.fin ?_ | (refine QL.step (v := ?_) (by exact rfl) (by exact rfl) ?_ ?_; rotate_left) | refine L.loadA 1 (hv := ck_ble 3 (by decide) hmd) (hl := ck_head) (c := ?_) | refine L.callQ F (hpre := fun w hw => hr.at hw) (k := ?_) | refine L.loadK 1 (ck_loops hmd) rfl (c := ?_) | refine L.lenR hG.sl (c := ?_))
  refine C.quiet (h := ?_)
  repeat' (first | refine C.seq ?_ | refine C.region ?_ | refine L.nil ?_ | refine D.seq ?_ | refine L.move (k := ?_) | refine L.assign (k := ?_) | refine L.cm (c := ?_) | refine L.fieldAddr (c := ?_) | refine L.load1 0 (c := ?_) | refine L.nilCheck (k := ?_) | refine C.yes (h1 := ?_) | refine C.no (h1 := ?_) | refine L.pickT (k := ?_) | refine L.pickF (k := ?_) | refine L.want (k := ?_) | refine C.ret ?_ | refine D.thenRet ?_ | refine D.blkRet ?_ | exact D.endsQ | refine QL.fin ?_ | (refine QL.step (v := ?_) (by exact rfl) (by exact rfl) ?_ ?_; rotate_left) | refine L.loadA 1 (hv := ck_ble 3 (by decide) hmd) (hl := ck_head) (c := ?_) | refine L.callQ F (hpre := fun w hw => hr.at hw) (k := ?_) | refine L.loadK 1 (ck_loops hmd) rfl (c := ?_) | refine L.lenR hG.sl (c := ?_) | refine L.callQ I1 (hpre := fun w1 hw => hpre w1 _ hw) (k := ?_) | refine L.callQ I2 (hpre := fun w1 hw => hpre w1 _ hw) (k := ?_) | refine L.indexArr (k := o.d.toNat) hdi hdk (c := ?_) | refine L.loadK 1 hmv hmo (c := ?_))
  have hany : (makesM o).any (fun r => c.loops.contains r) = false := by
    rw [makes_filter hf, any_filter]; simp only [List.any_cons, List.any_nil, hid, hie]; rfl
  (refine D.ret (vs := [_]) (RV.tmp rfl RV.nil) ?_; intro w' hw; exact Post.mk (is := []) hw List.nodup_nil rfl (opR_bad (by simp only [rstep, hf, ce, hany, hlp0, hmdv, h8]; rfl)))
set_option maxHeartbeats 8000000 in
theorem op_lackL (b : Nat) (regs : Int) (vb vo : Value) (bs : List Bf) (c : Ck) (o : Lop) (y : OS) (hrg : regs ≤ 64) (hmd : c.made.length = 64) (hG : osG 1 c.loops.length (c.loops.map int) y) (hlp : c.loops.length ≤ 8) (hlr : ∀ r ∈ c.loops, 0 ≤ r ∧ r < regs) (hf : rfields regs bs o = true) (hk : o.k ≠ 17) (hid : (cm .geq o.d 0 && c.loops.contains o.d) = false) (hie : (cm .geq o.e 0 && c.loops.contains o.e) = false) (hlp0 : cm .eql o.k 16 = true) (hmdv : mdAt c.made o.d = false) (h8 : cm .eql (c.loops.length : Int) 8 = false) (hlk : (takesM o).any (fun r => !mdAt c.made r) = true) :
    Ctr Try.prog 68 [.pointer (some ⟨b, 0, none⟩), aggO o] ((b, ob (ckCells regs vb vo c.made (osV c.loops.length y)) 103) :: osC 3 y []) (fun w => Rd w (keys ((b, ob (ckCells regs vb vo c.made (osV c.loops.length y)) 103) :: osC 3 y [])) vb bs.length (bs.flatMap encB)) (opR b regs vb vo bs c o) := by
  refine Ctr.enter Try.func68 Try.ntmps68 rfl rfl (fun w hr => ?_)
  have F := lfields_S regs vb vo bs o
  rw [f_same, hf] at F
  unfold aggO
  have ce : cm .eql o.k 17 = false := cm_no hk
  have I1 := cin_S b regs vb vo c.made (osV c.loops.length y) c.loops o.d hmd (by omega)
  have I2 := cin_S b regs vb vo c.made (osV c.loops.length y) c.loops o.e hmd (by omega)
  rw [hid] at I1
  rw [hie] at I2
  have hpre : ∀ w1 X, At w (keys ((b, ob (ckCells regs vb vo c.made (osV c.loops.length y)) 103) :: osC 3 y [])) (X :: (b, ob (ckCells regs vb vo c.made (osV c.loops.length y)) 103) :: osC 3 y []) w1 → Old w1 [] b 0 (ckCells regs vb vo c.made (osV c.loops.length y)) ∧ Rd w1 [] (osV c.loops.length y) c.loops.length (c.loops.map int) := fun w1 X hw => ⟨Old.own (hw.holds (b, ob (ckCells regs vb vo c.made (osV c.loops.length y)) 103) (by simp)) (by simp) _ List.take_length, hG.rd (L1 := [_, _]) (L2 := []) hw⟩
  have hdr : 0 ≤ o.d ∧ o.d < regs := rf_makes hf o.d (by rw [makes_loop (by simpa [cm] using hlp0)]; simp)
  have hdi : o.d = (o.d.toNat : Int) := by omega
  have hdk : o.d.toNat < 64 := by omega
  have hmv : (ckCells regs vb vo c.made (osV c.loops.length y))[3 + o.d.toNat]? = some (.bool false) := by rw [ck_made (mdAt_at (by omega) (by omega)), hmdv]
  have hmo : 0 + 3 + o.d.toNat * 1 = 3 + o.d.toNat := by omega
  repeat' (first | refine C.seq ?_ | refine C.region ?_ | refine L.nil ?_ | refine D.seq ?_ | refine L.assign (k := ?_) | refine L.box (c := fun _ => ?_) | refine L.loadA 1 (hv := ck_ble 3 (by decide) hmd) (hl := ck_head) (c := ?_) | refine L.callQ F (hpre := fun w hw => hr.at hw) (k := ?_) | refine L.loadK 1 (ck_loops hmd) rfl (c := ?_) | refine L.lenR hG.sl (c := ?_))
  refine C.quiet (h := ?_)
  repeat' (first | refine C.seq ?_ | refine C.region ?_ | refine L.nil ?_ | refine D.seq ?_ | refine L.move (k := ?_) | refine L.assign (k := ?_) | refine L.cm (c := ?_) | refine L.fieldAddr (c := ?_) | refine L.load1 0 (c := ?_) | refine L.loadA 0 (c := ?_) | refine L.nilCheck (k := ?_) | refine C.no (h1 := ?_) | refine L.not (c := ?_) | refine C.block ?_ | refine C.skip ?_ | exact D.endsQ | refine QL.fin ?_ | (refine QL.step (v := ?_) (by exact rfl) (by exact rfl) ?_ ?_; rotate_left) | refine L.loadA 1 (hv := ck_ble 3 (by decide) hmd) (hl := ck_head) (c := ?_) | refine L.callQ F (hpre := fun w hw => hr.at hw) (k := ?_) | refine L.loadK 1 (ck_loops hmd) rfl (c := ?_) | refine L.lenR hG.sl (c := ?_))
  refine C.quiet (h := ?_)
  repeat' (first | refine C.seq ?_ | refine C.region ?_ | refine L.nil ?_ | refine D.seq ?_ | refine L.move (k := ?_) | refine L.assign (k := ?_) | refine L.cm (c := ?_) | refine L.fieldAddr (c := ?_) | refine L.load1 0 (c := ?_) | refine L.nilCheck (k := ?_) | refine C.no (h1 := ?_) | refine L.pickT (k := ?_) | refine L.pickF (k := ?_) | refine L.want (k := ?_) | exact D.endsQ | refine QL.fin ?_ | (refine QL.step (v := ?_) (by exact rfl) (by exact rfl) ?_ ?_; rotate_left) | refine L.loadA 1 (hv := ck_ble 3 (by decide) hmd) (hl := ck_head) (c := ?_) | refine L.callQ F (hpre := fun w hw => hr.at hw) (k := ?_) | refine L.loadK 1 (ck_loops hmd) rfl (c := ?_) | refine L.lenR hG.sl (c := ?_) | refine L.callQ I1 (hpre := fun w1 hw => hpre w1 _ hw) (k := ?_) | refine L.callQ I2 (hpre := fun w1 hw => hpre w1 _ hw) (k := ?_) | refine L.indexArr (k := o.d.toNat) hdi hdk (c := ?_) | refine L.loadK 1 hmv hmo (c := ?_))
  have hany : (makesM o).any (fun r => c.loops.contains r) = false := by
    rw [makes_filter hf, any_filter]; simp only [List.any_cons, List.any_nil, hid, hie]; rfl
  have h64 : ∀ r ∈ [o.a, o.b, o.c], r < 64 := fun r hr => by
    by_cases h : cm .geq r 0 = true
    · have := rf_takes hf r (by rw [takes_filter hf]; exact List.mem_filter.2 ⟨hr, h⟩)
      omega
    · simp [cm] at h; omega
  have h64m : ∀ r ∈ [o.d, o.e], r < 64 := fun r hr => by
    by_cases h : cm .geq r 0 = true
    · have := rf_makes hf r (by rw [makes_filter hf]; exact List.mem_filter.2 ⟨hr, h⟩)
      omega
    · simp [cm] at h; omega
  rename_i xb
  refine C.makeA (h := ?_)
  iterate 10 ((refine QP.quiet (v := ?_) (by exact rfl) (by exact rfl) (fun w1 g1 => ?_) ?_; rotate_left); repeat (first | refine L.nil ?_ | refine L.move (k := ?_) | refine L.fieldAddr (c := ?_) | refine L.load1 0 (c := ?_) | refine L.nilCheck (k := ?_) | exact D.endsQ | refine L.loadA 1 (hv := ck_ble (0 + 3 + 64) (by decide) hmd) (hl := ck_row hmd) (c := ?_)))
  refine QP.mk0 [] (fun F B => ∃ nb1, F = [(97, .slice (some ⟨nb1, 0, none⟩) 3 3)] ∧ B = [(nb1, ob [int o.a, int o.b, int o.c] 3)]) (h := fun w1 g1 => ?_) (k := ?_)
  · rw [List.nil_append]
    repeat (first | refine L.nil ?_ | refine L.buildS (c := fun _ => ?_))
    exact D.endsP1 [_] (hR := ⟨_, rfl, rfl⟩)
  refine QP.mk1 10 [] (fun F B => ∃ nb1, F = [(98, .bool true)] ∧ B = [(nb1, ob [int o.a, int o.b, int o.c] 3)]) (h := ?_) (k := ?_)
  · rintro F B ⟨nb1, rfl, rfl⟩ w1 g1
    have k1 := lacks_S c.made (.slice (some ⟨nb1, 0, none⟩) 3 3) [o.a, o.b, o.c] hmd h64 (by simp)
    have hlv : ([o.a, o.b, o.c].any fun r => cm .geq r 0 && !mdAt c.made r) = true := by rw [← hlk, takes_filter hf, any_filter]
    rw [hlv] at k1
    simp only [List.cons_append, List.nil_append] at g1 ⊢
    refine L.callQ k1 (hpre := fun w hw => Rd.own (hw.holds _ List.mem_cons_self) (by simp) (Nat.le_refl _) 3 rfl) (k := ?_)
    refine L.nil ?_
    exact D.endsP1 [_] (hR := ⟨nb1, rfl, rfl⟩)
  refine QP.mk1 11 [] (fun F B => ∃ nb1, F = [(86, .bool true)] ∧ B = [(nb1, ob [int o.a, int o.b, int o.c] 3)]) (h := ?_) (k := ?_)
  · rintro F B ⟨nb1, rfl, rfl⟩ w1 g1
    simp only [List.cons_append, List.nil_append] at g1 ⊢
    repeat (first | refine L.nil ?_ | refine L.assign (k := ?_))
    exact D.endsP1 [_] (hR := ⟨nb1, rfl, rfl⟩)
  refine QP.fin1 [none, none, none, none, none, none, none, none, none, none, some [], some [10], some [11]] 12 (nds := [[], [], [], [], [], [], [], [], [], [], [], [], []]) (hM := List.Perm.refl _) (k := ?_)
  rintro F B ⟨nb1, rfl, rfl⟩
  simp only [List.cons_append, List.nil_append]
  repeat' (first | refine C.seq ?_ | refine C.region ?_ | refine L.nil ?_ | refine D.seq ?_ | refine L.assign (k := ?_) | refine C.yes (h1 := ?_) | refine C.ret ?_ | refine D.thenRet ?_ | refine D.blkRet ?_ | refine D.seqR (h := ?_))
  (refine D.ret (vs := [_]) (RV.tmp rfl RV.nil) ?_; intro w' hw; exact Post.mk (is := []) hw List.nodup_nil rfl (opR_bad (by simp only [rstep, hf, ce, hany, hlk, hlp0, hmdv, h8]; rfl)))
set_option maxHeartbeats 8000000 in
theorem op_okL (b : Nat) (regs : Int) (vb vo : Value) (bs : List Bf) (c : Ck) (o : Lop) (y : OS) (hrg : regs ≤ 64) (hmd : c.made.length = 64) (hG : osG 1 c.loops.length (c.loops.map int) y) (hlp : c.loops.length ≤ 8) (hlr : ∀ r ∈ c.loops, 0 ≤ r ∧ r < regs) (hf : rfields regs bs o = true) (hk : o.k ≠ 17) (hid : (cm .geq o.d 0 && c.loops.contains o.d) = false) (hie : (cm .geq o.e 0 && c.loops.contains o.e) = false) (hlp0 : cm .eql o.k 16 = true) (hmdv : mdAt c.made o.d = false) (h8 : cm .eql (c.loops.length : Int) 8 = false) (hlk : (takesM o).any (fun r => !mdAt c.made r) = false) :
    Ctr Try.prog 68 [.pointer (some ⟨b, 0, none⟩), aggO o] ((b, ob (ckCells regs vb vo c.made (osV c.loops.length y)) 103) :: osC 3 y []) (fun w => Rd w (keys ((b, ob (ckCells regs vb vo c.made (osV c.loops.length y)) 103) :: osC 3 y [])) vb bs.length (bs.flatMap encB)) (opR b regs vb vo bs c o) := by
  refine Ctr.enter Try.func68 Try.ntmps68 rfl rfl (fun w hr => ?_)
  have F := lfields_S regs vb vo bs o
  rw [f_same, hf] at F
  unfold aggO
  have ce : cm .eql o.k 17 = false := cm_no hk
  have I1 := cin_S b regs vb vo c.made (osV c.loops.length y) c.loops o.d hmd (by omega)
  have I2 := cin_S b regs vb vo c.made (osV c.loops.length y) c.loops o.e hmd (by omega)
  rw [hid] at I1
  rw [hie] at I2
  have hpre : ∀ w1 X, At w (keys ((b, ob (ckCells regs vb vo c.made (osV c.loops.length y)) 103) :: osC 3 y [])) (X :: (b, ob (ckCells regs vb vo c.made (osV c.loops.length y)) 103) :: osC 3 y []) w1 → Old w1 [] b 0 (ckCells regs vb vo c.made (osV c.loops.length y)) ∧ Rd w1 [] (osV c.loops.length y) c.loops.length (c.loops.map int) := fun w1 X hw => ⟨Old.own (hw.holds (b, ob (ckCells regs vb vo c.made (osV c.loops.length y)) 103) (by simp)) (by simp) _ List.take_length, hG.rd (L1 := [_, _]) (L2 := []) hw⟩
  have hdr : 0 ≤ o.d ∧ o.d < regs := rf_makes hf o.d (by rw [makes_loop (by simpa [cm] using hlp0)]; simp)
  have hdi : o.d = (o.d.toNat : Int) := by omega
  have hdk : o.d.toNat < 64 := by omega
  have hmv : (ckCells regs vb vo c.made (osV c.loops.length y))[3 + o.d.toNat]? = some (.bool false) := by rw [ck_made (mdAt_at (by omega) (by omega)), hmdv]
  have hmo : 0 + 3 + o.d.toNat * 1 = 3 + o.d.toNat := by omega
  repeat' (first | refine C.seq ?_ | refine C.region ?_ | refine L.nil ?_ | refine D.seq ?_ | refine L.assign (k := ?_) | refine L.box (c := fun _ => ?_) | refine L.loadA 1 (hv := ck_ble 3 (by decide) hmd) (hl := ck_head) (c := ?_) | refine L.callQ F (hpre := fun w hw => hr.at hw) (k := ?_) | refine L.loadK 1 (ck_loops hmd) rfl (c := ?_) | refine L.lenR hG.sl (c := ?_))
  refine C.quiet (h := ?_)
  repeat' (first | refine C.seq ?_ | refine C.region ?_ | refine L.nil ?_ | refine D.seq ?_ | refine L.move (k := ?_) | refine L.assign (k := ?_) | refine L.cm (c := ?_) | refine L.fieldAddr (c := ?_) | refine L.load1 0 (c := ?_) | refine L.loadA 0 (c := ?_) | refine L.nilCheck (k := ?_) | refine C.no (h1 := ?_) | refine L.not (c := ?_) | refine C.block ?_ | refine C.skip ?_ | exact D.endsQ | refine QL.fin ?_ | (refine QL.step (v := ?_) (by exact rfl) (by exact rfl) ?_ ?_; rotate_left) | refine L.loadA 1 (hv := ck_ble 3 (by decide) hmd) (hl := ck_head) (c := ?_) | refine L.callQ F (hpre := fun w hw => hr.at hw) (k := ?_) | refine L.loadK 1 (ck_loops hmd) rfl (c := ?_) | refine L.lenR hG.sl (c := ?_))
  refine C.quiet (h := ?_)
  repeat' (first | refine C.seq ?_ | refine C.region ?_ | refine L.nil ?_ | refine D.seq ?_ | refine L.move (k := ?_) | refine L.assign (k := ?_) | refine L.cm (c := ?_) | refine L.fieldAddr (c := ?_) | refine L.load1 0 (c := ?_) | refine L.nilCheck (k := ?_) | refine C.no (h1 := ?_) | refine L.pickT (k := ?_) | refine L.pickF (k := ?_) | refine L.want (k := ?_) | exact D.endsQ | refine QL.fin ?_ | (refine QL.step (v := ?_) (by exact rfl) (by exact rfl) ?_ ?_; rotate_left) | refine L.loadA 1 (hv := ck_ble 3 (by decide) hmd) (hl := ck_head) (c := ?_) | refine L.callQ F (hpre := fun w hw => hr.at hw) (k := ?_) | refine L.loadK 1 (ck_loops hmd) rfl (c := ?_) | refine L.lenR hG.sl (c := ?_) | refine L.callQ I1 (hpre := fun w1 hw => hpre w1 _ hw) (k := ?_) | refine L.callQ I2 (hpre := fun w1 hw => hpre w1 _ hw) (k := ?_) | refine L.indexArr (k := o.d.toNat) hdi hdk (c := ?_) | refine L.loadK 1 hmv hmo (c := ?_))
  have hany : (makesM o).any (fun r => c.loops.contains r) = false := by
    rw [makes_filter hf, any_filter]; simp only [List.any_cons, List.any_nil, hid, hie]; rfl
  have h64 : ∀ r ∈ [o.a, o.b, o.c], r < 64 := fun r hr => by
    by_cases h : cm .geq r 0 = true
    · have := rf_takes hf r (by rw [takes_filter hf]; exact List.mem_filter.2 ⟨hr, h⟩)
      omega
    · simp [cm] at h; omega
  have h64m : ∀ r ∈ [o.d, o.e], r < 64 := fun r hr => by
    by_cases h : cm .geq r 0 = true
    · have := rf_makes hf r (by rw [makes_filter hf]; exact List.mem_filter.2 ⟨hr, h⟩)
      omega
    · simp [cm] at h; omega
  rename_i xb
  refine C.makeA (h := ?_)
  iterate 10 ((refine QP.quiet (v := ?_) (by exact rfl) (by exact rfl) (fun w1 g1 => ?_) ?_; rotate_left); repeat (first | refine L.nil ?_ | refine L.move (k := ?_) | refine L.fieldAddr (c := ?_) | refine L.load1 0 (c := ?_) | refine L.nilCheck (k := ?_) | exact D.endsQ | refine L.loadA 1 (hv := ck_ble (0 + 3 + 64) (by decide) hmd) (hl := ck_row hmd) (c := ?_)))
  refine QP.mk0 [] (fun F B => ∃ nb1, F = [(97, .slice (some ⟨nb1, 0, none⟩) 3 3)] ∧ B = [(nb1, ob [int o.a, int o.b, int o.c] 3)]) (h := fun w1 g1 => ?_) (k := ?_)
  · rw [List.nil_append]
    repeat (first | refine L.nil ?_ | refine L.buildS (c := fun _ => ?_))
    exact D.endsP1 [_] (hR := ⟨_, rfl, rfl⟩)
  refine QP.mk1 10 [] (fun F B => ∃ nb1, F = [(98, .bool false)] ∧ B = [(nb1, ob [int o.a, int o.b, int o.c] 3)]) (h := ?_) (k := ?_)
  · rintro F B ⟨nb1, rfl, rfl⟩ w1 g1
    have k1 := lacks_S c.made (.slice (some ⟨nb1, 0, none⟩) 3 3) [o.a, o.b, o.c] hmd h64 (by simp)
    have hlv : ([o.a, o.b, o.c].any fun r => cm .geq r 0 && !mdAt c.made r) = false := by rw [← hlk, takes_filter hf, any_filter]
    rw [hlv] at k1
    simp only [List.cons_append, List.nil_append] at g1 ⊢
    refine L.callQ k1 (hpre := fun w hw => Rd.own (hw.holds _ List.mem_cons_self) (by simp) (Nat.le_refl _) 3 rfl) (k := ?_)
    refine L.nil ?_
    exact D.endsP1 [_] (hR := ⟨nb1, rfl, rfl⟩)
  refine QP.mk1 11 [] (fun F B => ∃ nb1, F = [(86, .bool false)] ∧ B = [(nb1, ob [int o.a, int o.b, int o.c] 3)]) (h := ?_) (k := ?_)
  · rintro F B ⟨nb1, rfl, rfl⟩ w1 g1
    simp only [List.cons_append, List.nil_append] at g1 ⊢
    repeat (first | refine L.nil ?_ | refine L.assign (k := ?_))
    exact D.endsP1 [_] (hR := ⟨nb1, rfl, rfl⟩)
  refine QP.fin1 [none, none, none, none, none, none, none, none, none, none, some [], some [10], some [11]] 12 (nds := [[], [], [], [], [], [], [], [], [], [], [], [], []]) (hM := List.Perm.refl _) (k := ?_)
  rintro F B ⟨nb1, rfl, rfl⟩
  simp only [List.cons_append, List.nil_append]
  repeat' (first | refine C.seq ?_ | refine C.no (h1 := ?_) | refine D.blkNormal ?_ | refine C.skip ?_ | refine D.seqR (h := ?_))
  have hst : rstep regs bs c o = .inr ⟨putM true c.made [o.d, o.e], c.loops ++ [o.d]⟩ := by
    rw [putM_filter, ← makes_filter hf]; simp only [rstep, hf, ce, hany, hlk, hlp0, hmdv, h8]; rfl
  have hm2 : (putM true c.made [o.d, o.e]).length = 64 := by rw [putM_len, hmd]
  have hk67 : 67 < (ckCells regs vb vo (putM true c.made [o.d, o.e]) (osV c.loops.length y)).length := by rw [ck_len hm2]; decide
  refine C.make ((nb1, ob [int o.a, int o.b, int o.c] 3) :: (xb, ob [.int .i64 o.k, .int .i64 o.d, .int .i64 o.e, .int .i64 o.a, .int .i64 o.b, .int .i64 o.c, .int .i64 o.buf, .int .u64 o.imm] 39) :: osC 3 y []) (by kernel_rfl) (h := ?_)
  iterate 7 ((refine QP.quiet (v := ?_) (by exact rfl) (by exact rfl) (fun w1 g1 => ?_) ?_; rotate_left); repeat (first | refine L.nil ?_ | refine L.move (k := ?_) | refine L.fieldAddr (c := ?_) | refine L.load1 1 (c := ?_) | refine L.nilCheck (k := ?_) | exact D.endsQ))
  refine QP.mk0 [] (fun F B => ∃ nb2, F = [(106, .slice (some ⟨nb2, 0, none⟩) 2 2)] ∧ B = [(nb2, ob [int o.d, int o.e] 3)]) (h := fun w1 g1 => ?_) (k := ?_)
  · rw [List.nil_append]
    repeat (first | refine L.nil ?_ | refine L.buildS (c := fun _ => ?_))
    exact D.endsP1 [_] (hR := ⟨_, rfl, rfl⟩)
  refine QP.mk1 7 [(b, ob (ckCells regs vb vo c.made (osV c.loops.length y)) 103)] (fun F B => ∃ nb2, F = [(107, shut [])] ∧ B = [(nb2, ob [int o.d, int o.e] 3), (b, ob (ckCells regs vb vo (putM true c.made [o.d, o.e]) (osV c.loops.length y)) 103)]) (h := ?_) (k := ?_)
  · rintro F B ⟨nb2, rfl, rfl⟩ w1 g1
    simp only [List.cons_append, List.nil_append] at g1 ⊢
    refine L.call1 1 (put_S b _ regs vb vo c.made _ true _ [o.d, o.e] hmd h64m (by simp)) (hpre := fun w hw => Rd.own (hw.holds _ List.mem_cons_self) (by have := (List.nodup_cons.1 hw.nodup).1; simp [keys] at this ⊢; exact this.1) (Nat.le_refl _) 2 rfl) (k := ?_)
    refine L.nil ?_
    exact D.endsP1 [_, _] (hR := ⟨nb2, rfl, rfl⟩)
  refine QP.fin1 [none, none, none, none, none, none, none, some [], some [7]] 8 (nds := [[], [], [], [], [], [], [], [], []]) (hM := List.perm_middle (l₁ := [_, _])) (k := ?_)
  rintro F B ⟨nb2, rfl, rfl⟩
  simp only [List.cons_append, List.nil_append]
  repeat' (first | refine C.seq ?_ | refine C.region ?_ | refine L.nil ?_ | refine D.seq ?_ | refine L.move (k := ?_) | refine C.yes (h1 := ?_) | refine D.seqR (h := ?_))
  refine C.make [(nb2, ob [int o.d, int o.e] 3), (nb1, ob [int o.a, int o.b, int o.c] 3), (xb, ob [.int .i64 o.k, .int .i64 o.d, .int .i64 o.e, .int .i64 o.a, .int .i64 o.b, .int .i64 o.c, .int .i64 o.buf, .int .u64 o.imm] 39)] (by kernel_rfl) (h := ?_)
  iterate 4 ((refine QP.quiet (v := ?_) (by exact rfl) (by exact rfl) (fun w1 g1 => ?_) ?_; rotate_left); repeat (first | refine L.nil ?_ | refine L.move (k := ?_) | refine L.fieldAddr (c := ?_) | refine L.nilCheck (k := ?_) | exact D.endsQ))
  (refine QP.quietI (v := ?_) [11] [(b, ob (ckCells regs vb vo (putM true c.made [o.d, o.e]) (osV c.loops.length y)) 103)] (by exact rfl) (by exact rfl) (fun w1 g1 => ?_) ?_; rotate_left); simp only [List.take_succ_cons, List.take_zero, List.take_nil, List.cons_append, List.nil_append]; repeat (first | refine L.nil ?_ | exact D.endsQ | refine L.loadK 0 (ck_loops hm2) rfl (c := ?_))
  iterate 2 ((refine QP.quiet (v := ?_) (by exact rfl) (by exact rfl) (fun w1 g1 => ?_) ?_; rotate_left); repeat (first | refine L.nil ?_ | refine L.fieldAddr (c := ?_) | refine L.load1 2 (c := ?_) | exact D.endsQ))
  refine QP.mk0 [] (fun F B => ∃ nb3, F = [(116, .slice (some ⟨nb3, 0, none⟩) 1 1)] ∧ B = [(nb3, ob [int o.d] 3)]) (h := fun w1 g1 => ?_) (k := ?_)
  · rw [List.nil_append]
    repeat (first | refine L.nil ?_ | refine L.buildS (c := fun _ => ?_))
    exact D.endsP1 [_] (hR := ⟨_, rfl, rfl⟩)
  refine QP.mk1 7 (osC 3 y []) (fun F B => ∃ nb3 y', osG 1 (c.loops.length + 1) (c.loops.map int ++ [int o.d]) y' ∧ F = [(117, osV (c.loops.length + 1) y')] ∧ B = (nb3, ob [int o.d] 3) :: osC 3 y' []) (h := ?_) (k := ?_)
  · rintro F B ⟨nb3, rfl, rfl⟩ w1 g1
    refine L.appendU [_] (L2 := [(nb2, ob [int o.d, int o.e] 3), (nb1, ob [int o.a, int o.b, int o.c] 3), (xb, ob [.int .i64 o.k, .int .i64 o.d, .int .i64 o.e, .int .i64 o.a, .int .i64 o.b, .int .i64 o.c, .int .i64 o.buf, .int .u64 o.imm] 39)]) (u := .slice (some ⟨nb3, 0, none⟩) 1 1) (k := 1) (news := [int o.d]) hG (by rw [osC_app 3 y [(nb2, ob [int o.d, int o.e] 3), (nb1, ob [int o.a, int o.b, int o.c] 3), (xb, ob [.int .i64 o.k, .int .i64 o.d, .int .i64 o.e, .int .i64 o.a, .int .i64 o.b, .int .i64 o.c, .int .i64 o.buf, .int .u64 o.imm] 39)]]; try rfl) (fun w hw => Rd.own (hw.holds _ List.mem_cons_self) (by simp) (Nat.le_refl _) 1 rfl) rfl (by intro u hu; simp at hu; subst hu; rfl) (by unfold maxLen; omega) (by omega) (c := fun y' hG' _ => ?_)
    refine L.nil ?_
    exact D.endsP1 ((nb3, ob [int o.d] 3) :: osC 3 y' []) (hM := by rw [osC_app 3 y' [(nb2, ob [int o.d, int o.e] 3), (nb1, ob [int o.a, int o.b, int o.c] 3), (xb, ob [.int .i64 o.k, .int .i64 o.d, .int .i64 o.e, .int .i64 o.a, .int .i64 o.b, .int .i64 o.c, .int .i64 o.buf, .int .u64 o.imm] 39)]]; try rfl) (hR := ⟨nb3, y', hG', rfl, rfl⟩)
  iterate 2 ((refine QP.quiet (v := ?_) (by exact rfl) (by exact rfl) (fun w1 g1 => ?_) ?_; rotate_left); repeat (first | refine L.nil ?_ | refine L.fieldAddr (c := ?_) | refine L.nilCheck (k := ?_) | exact D.endsQ))
  refine QP.mk1 8 [(b, ob (ckCells regs vb vo (putM true c.made [o.d, o.e]) (osV c.loops.length y)) 103)] (fun F B => ∃ nb3 y', osG 1 (c.loops.length + 1) (c.loops.map int ++ [int o.d]) y' ∧ F = [] ∧ B = (b, ob (ckCells regs vb vo (putM true c.made [o.d, o.e]) (osV (c.loops.length + 1) y')) 103) :: (nb3, ob [int o.d] 3) :: osC 3 y' []) (h := ?_) (k := ?_)
  · rintro F B ⟨nb3, y', hG', rfl, rfl⟩ w1 g1
    refine L.perm (M' := (b, ob (ckCells regs vb vo (putM true c.made [o.d, o.e]) (osV c.loops.length y)) 103) :: (((nb3, ob [int o.d] 3) :: osC 3 y' []) ++ [(nb2, ob [int o.d, int o.e] 3), (nb1, ob [int o.a, int o.b, int o.c] 3), (xb, ob [.int .i64 o.k, .int .i64 o.d, .int .i64 o.e, .int .i64 o.a, .int .i64 o.b, .int .i64 o.c, .int .i64 o.buf, .int .u64 o.imm] 39)])) List.perm_middle.symm ?_
    refine L.storeK 0 hk67 rfl (hc := osV_cells _ _) (h1 := oneB_os _ _) (hM := ck_hset0 hm2) (c := ?_)
    refine L.nil ?_
    exact D.endsP0 [] ((b, ob (ckCells regs vb vo (putM true c.made [o.d, o.e]) (osV (c.loops.length + 1) y')) 103) :: (nb3, ob [int o.d] 3) :: osC 3 y' []) (hM := rfl) (hF := fun _ _ h => by cases h) (hR := ⟨nb3, y', hG', rfl, rfl⟩)
  refine QP.fin1 [none, none, none, none, none, none, none, some [], some [7], none, none, some [8]] 11 (nds := [[], [], [], [], [11], [], [], [], [], [], [], []]) (hM := perm_op _ _ _ _ _) (k := ?_)
  rintro F B ⟨nb3, y', hG', rfl, rfl⟩
  rw [List.nil_append]
  repeat' (first | refine C.seq ?_ | refine C.region ?_ | refine L.nil ?_ | refine D.seq ?_ | refine L.assign (k := ?_) | refine C.ret ?_)
  (refine D.ret (vs := [_]) (RV.tmp rfl RV.nil) ?_; intro w' hw; refine Post.mkD 4 (hw.perm (M' := (nb3, ob [int o.d] 3) :: (nb2, ob [int o.d, int o.e] 3) :: (nb1, ob [int o.a, int o.b, int o.c] 3) :: (xb, ob [.int .i64 o.k, .int .i64 o.d, .int .i64 o.e, .int .i64 o.a, .int .i64 o.b, .int .i64 o.c, .int .i64 o.buf, .int .u64 o.imm] 39) :: (b, ob (ckCells regs vb vo (putM true c.made [o.d, o.e]) (osV (c.loops.length + 1) y')) 103) :: osC 3 y' []) (perm_op2 _ _ _ _ _ _)) (B := (b, ob (ckCells regs vb vo (putM true c.made [o.d, o.e]) (osV (c.loops.length + 1) y')) 103) :: osC 3 y' []) rfl ?_)
  have := opR_ok (b := b) (vb := vb) (vo := vo) (y' := y') hst (by simpa using hG')
  simp only [List.length_append, List.length_singleton] at this
  exact this
set_option maxHeartbeats 8000000 in
theorem op_lackN (b : Nat) (regs : Int) (vb vo : Value) (bs : List Bf) (c : Ck) (o : Lop) (y : OS) (hrg : regs ≤ 64) (hmd : c.made.length = 64) (hG : osG 1 c.loops.length (c.loops.map int) y) (hlp : c.loops.length ≤ 8) (hlr : ∀ r ∈ c.loops, 0 ≤ r ∧ r < regs) (hf : rfields regs bs o = true) (hk : o.k ≠ 17) (hid : (cm .geq o.d 0 && c.loops.contains o.d) = false) (hie : (cm .geq o.e 0 && c.loops.contains o.e) = false) (hlp0 : cm .eql o.k 16 = false) (hlk : (takesM o).any (fun r => !mdAt c.made r) = true) :
    Ctr Try.prog 68 [.pointer (some ⟨b, 0, none⟩), aggO o] ((b, ob (ckCells regs vb vo c.made (osV c.loops.length y)) 103) :: osC 3 y []) (fun w => Rd w (keys ((b, ob (ckCells regs vb vo c.made (osV c.loops.length y)) 103) :: osC 3 y [])) vb bs.length (bs.flatMap encB)) (opR b regs vb vo bs c o) := by
  refine Ctr.enter Try.func68 Try.ntmps68 rfl rfl (fun w hr => ?_)
  have F := lfields_S regs vb vo bs o
  rw [f_same, hf] at F
  unfold aggO
  have ce : cm .eql o.k 17 = false := cm_no hk
  have I1 := cin_S b regs vb vo c.made (osV c.loops.length y) c.loops o.d hmd (by omega)
  have I2 := cin_S b regs vb vo c.made (osV c.loops.length y) c.loops o.e hmd (by omega)
  rw [hid] at I1
  rw [hie] at I2
  have hpre : ∀ w1 X, At w (keys ((b, ob (ckCells regs vb vo c.made (osV c.loops.length y)) 103) :: osC 3 y [])) (X :: (b, ob (ckCells regs vb vo c.made (osV c.loops.length y)) 103) :: osC 3 y []) w1 → Old w1 [] b 0 (ckCells regs vb vo c.made (osV c.loops.length y)) ∧ Rd w1 [] (osV c.loops.length y) c.loops.length (c.loops.map int) := fun w1 X hw => ⟨Old.own (hw.holds (b, ob (ckCells regs vb vo c.made (osV c.loops.length y)) 103) (by simp)) (by simp) _ List.take_length, hG.rd (L1 := [_, _]) (L2 := []) hw⟩
  repeat' (first | refine C.seq ?_ | refine C.region ?_ | refine L.nil ?_ | refine D.seq ?_ | refine L.assign (k := ?_) | refine L.box (c := fun _ => ?_) | refine L.loadA 1 (hv := ck_ble 3 (by decide) hmd) (hl := ck_head) (c := ?_) | refine L.callQ F (hpre := fun w hw => hr.at hw) (k := ?_) | refine L.loadK 1 (ck_loops hmd) rfl (c := ?_) | refine L.lenR hG.sl (c := ?_))
  refine C.quiet (h := ?_)
  repeat' (first | refine C.seq ?_ | refine C.region ?_ | refine L.nil ?_ | refine D.seq ?_ | refine L.move (k := ?_) | refine L.assign (k := ?_) | refine L.cm (c := ?_) | refine L.fieldAddr (c := ?_) | refine L.load1 0 (c := ?_) | refine L.loadA 0 (c := ?_) | refine L.nilCheck (k := ?_) | refine C.no (h1 := ?_) | refine L.not (c := ?_) | refine C.block ?_ | refine C.skip ?_ | exact D.endsQ | refine QL.fin ?_ | (refine QL.step (v := ?_) (by exact rfl) (by exact rfl) ?_ ?_; rotate_left) | refine L.loadA 1 (hv := ck_ble 3 (by decide) hmd) (hl := ck_head) (c := ?_) | refine L.callQ F (hpre := fun w hw => hr.at hw) (k := ?_) | refine L.loadK 1 (ck_loops hmd) rfl (c := ?_) | refine L.lenR hG.sl (c := ?_))
  refine C.quiet (h := ?_)
  repeat' (first | refine C.seq ?_ | refine C.region ?_ | refine L.nil ?_ | refine D.seq ?_ | refine L.move (k := ?_) | refine L.assign (k := ?_) | refine L.fieldAddr (c := ?_) | refine L.load1 0 (c := ?_) | refine C.no (h1 := ?_) | refine L.pickF (k := ?_) | refine L.want (k := ?_) | refine L.pass (k := ?_) | exact D.endsQ | refine QL.fin ?_ | (refine QL.step (v := ?_) (by exact rfl) (by exact rfl) ?_ ?_; rotate_left) | refine L.loadA 1 (hv := ck_ble 3 (by decide) hmd) (hl := ck_head) (c := ?_) | refine L.callQ F (hpre := fun w hw => hr.at hw) (k := ?_) | refine L.loadK 1 (ck_loops hmd) rfl (c := ?_) | refine L.lenR hG.sl (c := ?_) | refine L.callQ I1 (hpre := fun w1 hw => hpre w1 _ hw) (k := ?_) | refine L.callQ I2 (hpre := fun w1 hw => hpre w1 _ hw) (k := ?_))
  have hany : (makesM o).any (fun r => c.loops.contains r) = false := by
    rw [makes_filter hf, any_filter]; simp only [List.any_cons, List.any_nil, hid, hie]; rfl
  have h64 : ∀ r ∈ [o.a, o.b, o.c], r < 64 := fun r hr => by
    by_cases h : cm .geq r 0 = true
    · have := rf_takes hf r (by rw [takes_filter hf]; exact List.mem_filter.2 ⟨hr, h⟩)
      omega
    · simp [cm] at h; omega
  have h64m : ∀ r ∈ [o.d, o.e], r < 64 := fun r hr => by
    by_cases h : cm .geq r 0 = true
    · have := rf_makes hf r (by rw [makes_filter hf]; exact List.mem_filter.2 ⟨hr, h⟩)
      omega
    · simp [cm] at h; omega
  rename_i xb
  refine C.makeA (h := ?_)
  iterate 10 ((refine QP.quiet (v := ?_) (by exact rfl) (by exact rfl) (fun w1 g1 => ?_) ?_; rotate_left); repeat (first | refine L.nil ?_ | refine L.move (k := ?_) | refine L.fieldAddr (c := ?_) | refine L.load1 0 (c := ?_) | refine L.nilCheck (k := ?_) | exact D.endsQ | refine L.loadA 1 (hv := ck_ble (0 + 3 + 64) (by decide) hmd) (hl := ck_row hmd) (c := ?_)))
  refine QP.mk0 [] (fun F B => ∃ nb1, F = [(97, .slice (some ⟨nb1, 0, none⟩) 3 3)] ∧ B = [(nb1, ob [int o.a, int o.b, int o.c] 3)]) (h := fun w1 g1 => ?_) (k := ?_)
  · rw [List.nil_append]
    repeat (first | refine L.nil ?_ | refine L.buildS (c := fun _ => ?_))
    exact D.endsP1 [_] (hR := ⟨_, rfl, rfl⟩)
  refine QP.mk1 10 [] (fun F B => ∃ nb1, F = [(98, .bool true)] ∧ B = [(nb1, ob [int o.a, int o.b, int o.c] 3)]) (h := ?_) (k := ?_)
  · rintro F B ⟨nb1, rfl, rfl⟩ w1 g1
    have k1 := lacks_S c.made (.slice (some ⟨nb1, 0, none⟩) 3 3) [o.a, o.b, o.c] hmd h64 (by simp)
    have hlv : ([o.a, o.b, o.c].any fun r => cm .geq r 0 && !mdAt c.made r) = true := by rw [← hlk, takes_filter hf, any_filter]
    rw [hlv] at k1
    simp only [List.cons_append, List.nil_append] at g1 ⊢
    refine L.callQ k1 (hpre := fun w hw => Rd.own (hw.holds _ List.mem_cons_self) (by simp) (Nat.le_refl _) 3 rfl) (k := ?_)
    refine L.nil ?_
    exact D.endsP1 [_] (hR := ⟨nb1, rfl, rfl⟩)
  refine QP.mk1 11 [] (fun F B => ∃ nb1, F = [(86, .bool true)] ∧ B = [(nb1, ob [int o.a, int o.b, int o.c] 3)]) (h := ?_) (k := ?_)
  · rintro F B ⟨nb1, rfl, rfl⟩ w1 g1
    simp only [List.cons_append, List.nil_append] at g1 ⊢
    repeat (first | refine L.nil ?_ | refine L.assign (k := ?_))
    exact D.endsP1 [_] (hR := ⟨nb1, rfl, rfl⟩)
  refine QP.fin1 [none, none, none, none, none, none, none, none, none, none, some [], some [10], some [11]] 12 (nds := [[], [], [], [], [], [], [], [], [], [], [], [], []]) (hM := List.Perm.refl _) (k := ?_)
  rintro F B ⟨nb1, rfl, rfl⟩
  simp only [List.cons_append, List.nil_append]
  repeat' (first | refine C.seq ?_ | refine C.region ?_ | refine L.nil ?_ | refine D.seq ?_ | refine L.assign (k := ?_) | refine C.yes (h1 := ?_) | refine C.ret ?_ | refine D.thenRet ?_ | refine D.blkRet ?_ | refine D.seqR (h := ?_))
  (refine D.ret (vs := [_]) (RV.tmp rfl RV.nil) ?_; intro w' hw; exact Post.mk (is := []) hw List.nodup_nil rfl (opR_bad (by simp only [rstep, hf, ce, hany, hlk, hlp0]; rfl)))
set_option maxHeartbeats 8000000 in
theorem op_okN (b : Nat) (regs : Int) (vb vo : Value) (bs : List Bf) (c : Ck) (o : Lop) (y : OS) (hrg : regs ≤ 64) (hmd : c.made.length = 64) (hG : osG 1 c.loops.length (c.loops.map int) y) (hlp : c.loops.length ≤ 8) (hlr : ∀ r ∈ c.loops, 0 ≤ r ∧ r < regs) (hf : rfields regs bs o = true) (hk : o.k ≠ 17) (hid : (cm .geq o.d 0 && c.loops.contains o.d) = false) (hie : (cm .geq o.e 0 && c.loops.contains o.e) = false) (hlp0 : cm .eql o.k 16 = false) (hlk : (takesM o).any (fun r => !mdAt c.made r) = false) :
    Ctr Try.prog 68 [.pointer (some ⟨b, 0, none⟩), aggO o] ((b, ob (ckCells regs vb vo c.made (osV c.loops.length y)) 103) :: osC 3 y []) (fun w => Rd w (keys ((b, ob (ckCells regs vb vo c.made (osV c.loops.length y)) 103) :: osC 3 y [])) vb bs.length (bs.flatMap encB)) (opR b regs vb vo bs c o) := by
  refine Ctr.enter Try.func68 Try.ntmps68 rfl rfl (fun w hr => ?_)
  have F := lfields_S regs vb vo bs o
  rw [f_same, hf] at F
  unfold aggO
  have ce : cm .eql o.k 17 = false := cm_no hk
  have I1 := cin_S b regs vb vo c.made (osV c.loops.length y) c.loops o.d hmd (by omega)
  have I2 := cin_S b regs vb vo c.made (osV c.loops.length y) c.loops o.e hmd (by omega)
  rw [hid] at I1
  rw [hie] at I2
  have hpre : ∀ w1 X, At w (keys ((b, ob (ckCells regs vb vo c.made (osV c.loops.length y)) 103) :: osC 3 y [])) (X :: (b, ob (ckCells regs vb vo c.made (osV c.loops.length y)) 103) :: osC 3 y []) w1 → Old w1 [] b 0 (ckCells regs vb vo c.made (osV c.loops.length y)) ∧ Rd w1 [] (osV c.loops.length y) c.loops.length (c.loops.map int) := fun w1 X hw => ⟨Old.own (hw.holds (b, ob (ckCells regs vb vo c.made (osV c.loops.length y)) 103) (by simp)) (by simp) _ List.take_length, hG.rd (L1 := [_, _]) (L2 := []) hw⟩
  repeat' (first | refine C.seq ?_ | refine C.region ?_ | refine L.nil ?_ | refine D.seq ?_ | refine L.assign (k := ?_) | refine L.box (c := fun _ => ?_) | refine L.loadA 1 (hv := ck_ble 3 (by decide) hmd) (hl := ck_head) (c := ?_) | refine L.callQ F (hpre := fun w hw => hr.at hw) (k := ?_) | refine L.loadK 1 (ck_loops hmd) rfl (c := ?_) | refine L.lenR hG.sl (c := ?_))
  refine C.quiet (h := ?_)
  repeat' (first | refine C.seq ?_ | refine C.region ?_ | refine L.nil ?_ | refine D.seq ?_ | refine L.move (k := ?_) | refine L.assign (k := ?_) | refine L.cm (c := ?_) | refine L.fieldAddr (c := ?_) | refine L.load1 0 (c := ?_) | refine L.loadA 0 (c := ?_) | refine L.nilCheck (k := ?_) | refine C.no (h1 := ?_) | refine L.not (c := ?_) | refine C.block ?_ | refine C.skip ?_ | exact D.endsQ | refine QL.fin ?_ | (refine QL.step (v := ?_) (by exact rfl) (by exact rfl) ?_ ?_; rotate_left) | refine L.loadA 1 (hv := ck_ble 3 (by decide) hmd) (hl := ck_head) (c := ?_) | refine L.callQ F (hpre := fun w hw => hr.at hw) (k := ?_) | refine L.loadK 1 (ck_loops hmd) rfl (c := ?_) | refine L.lenR hG.sl (c := ?_))
  refine C.quiet (h := ?_)
  repeat' (first | refine C.seq ?_ | refine C.region ?_ | refine L.nil ?_ | refine D.seq ?_ | refine L.move (k := ?_) | refine L.assign (k := ?_) | refine L.fieldAddr (c := ?_) | refine L.load1 0 (c := ?_) | refine C.no (h1 := ?_) | refine L.pickF (k := ?_) | refine L.want (k := ?_) | refine L.pass (k := ?_) | exact D.endsQ | refine QL.fin ?_ | (refine QL.step (v := ?_) (by exact rfl) (by exact rfl) ?_ ?_; rotate_left) | refine L.loadA 1 (hv := ck_ble 3 (by decide) hmd) (hl := ck_head) (c := ?_) | refine L.callQ F (hpre := fun w hw => hr.at hw) (k := ?_) | refine L.loadK 1 (ck_loops hmd) rfl (c := ?_) | refine L.lenR hG.sl (c := ?_) | refine L.callQ I1 (hpre := fun w1 hw => hpre w1 _ hw) (k := ?_) | refine L.callQ I2 (hpre := fun w1 hw => hpre w1 _ hw) (k := ?_))
  have hany : (makesM o).any (fun r => c.loops.contains r) = false := by
    rw [makes_filter hf, any_filter]; simp only [List.any_cons, List.any_nil, hid, hie]; rfl
  have h64 : ∀ r ∈ [o.a, o.b, o.c], r < 64 := fun r hr => by
    by_cases h : cm .geq r 0 = true
    · have := rf_takes hf r (by rw [takes_filter hf]; exact List.mem_filter.2 ⟨hr, h⟩)
      omega
    · simp [cm] at h; omega
  have h64m : ∀ r ∈ [o.d, o.e], r < 64 := fun r hr => by
    by_cases h : cm .geq r 0 = true
    · have := rf_makes hf r (by rw [makes_filter hf]; exact List.mem_filter.2 ⟨hr, h⟩)
      omega
    · simp [cm] at h; omega
  rename_i xb
  refine C.makeA (h := ?_)
  iterate 10 ((refine QP.quiet (v := ?_) (by exact rfl) (by exact rfl) (fun w1 g1 => ?_) ?_; rotate_left); repeat (first | refine L.nil ?_ | refine L.move (k := ?_) | refine L.fieldAddr (c := ?_) | refine L.load1 0 (c := ?_) | refine L.nilCheck (k := ?_) | exact D.endsQ | refine L.loadA 1 (hv := ck_ble (0 + 3 + 64) (by decide) hmd) (hl := ck_row hmd) (c := ?_)))
  refine QP.mk0 [] (fun F B => ∃ nb1, F = [(97, .slice (some ⟨nb1, 0, none⟩) 3 3)] ∧ B = [(nb1, ob [int o.a, int o.b, int o.c] 3)]) (h := fun w1 g1 => ?_) (k := ?_)
  · rw [List.nil_append]
    repeat (first | refine L.nil ?_ | refine L.buildS (c := fun _ => ?_))
    exact D.endsP1 [_] (hR := ⟨_, rfl, rfl⟩)
  refine QP.mk1 10 [] (fun F B => ∃ nb1, F = [(98, .bool false)] ∧ B = [(nb1, ob [int o.a, int o.b, int o.c] 3)]) (h := ?_) (k := ?_)
  · rintro F B ⟨nb1, rfl, rfl⟩ w1 g1
    have k1 := lacks_S c.made (.slice (some ⟨nb1, 0, none⟩) 3 3) [o.a, o.b, o.c] hmd h64 (by simp)
    have hlv : ([o.a, o.b, o.c].any fun r => cm .geq r 0 && !mdAt c.made r) = false := by rw [← hlk, takes_filter hf, any_filter]
    rw [hlv] at k1
    simp only [List.cons_append, List.nil_append] at g1 ⊢
    refine L.callQ k1 (hpre := fun w hw => Rd.own (hw.holds _ List.mem_cons_self) (by simp) (Nat.le_refl _) 3 rfl) (k := ?_)
    refine L.nil ?_
    exact D.endsP1 [_] (hR := ⟨nb1, rfl, rfl⟩)
  refine QP.mk1 11 [] (fun F B => ∃ nb1, F = [(86, .bool false)] ∧ B = [(nb1, ob [int o.a, int o.b, int o.c] 3)]) (h := ?_) (k := ?_)
  · rintro F B ⟨nb1, rfl, rfl⟩ w1 g1
    simp only [List.cons_append, List.nil_append] at g1 ⊢
    repeat (first | refine L.nil ?_ | refine L.assign (k := ?_))
    exact D.endsP1 [_] (hR := ⟨nb1, rfl, rfl⟩)
  refine QP.fin1 [none, none, none, none, none, none, none, none, none, none, some [], some [10], some [11]] 12 (nds := [[], [], [], [], [], [], [], [], [], [], [], [], []]) (hM := List.Perm.refl _) (k := ?_)
  rintro F B ⟨nb1, rfl, rfl⟩
  simp only [List.cons_append, List.nil_append]
  repeat' (first | refine C.seq ?_ | refine C.no (h1 := ?_) | refine D.blkNormal ?_ | refine C.skip ?_ | refine D.seqR (h := ?_))
  have hst : rstep regs bs c o = .inr ⟨putM true c.made [o.d, o.e], c.loops⟩ := by
    rw [putM_filter, ← makes_filter hf]; simp only [rstep, hf, ce, hany, hlk, hlp0]; rfl
  have hm2 : (putM true c.made [o.d, o.e]).length = 64 := by rw [putM_len, hmd]
  have hk67 : 67 < (ckCells regs vb vo (putM true c.made [o.d, o.e]) (osV c.loops.length y)).length := by rw [ck_len hm2]; decide
  refine C.make ((nb1, ob [int o.a, int o.b, int o.c] 3) :: (xb, ob [.int .i64 o.k, .int .i64 o.d, .int .i64 o.e, .int .i64 o.a, .int .i64 o.b, .int .i64 o.c, .int .i64 o.buf, .int .u64 o.imm] 39) :: osC 3 y []) (by kernel_rfl) (h := ?_)
  iterate 7 ((refine QP.quiet (v := ?_) (by exact rfl) (by exact rfl) (fun w1 g1 => ?_) ?_; rotate_left); repeat (first | refine L.nil ?_ | refine L.move (k := ?_) | refine L.fieldAddr (c := ?_) | refine L.load1 1 (c := ?_) | refine L.nilCheck (k := ?_) | exact D.endsQ))
  refine QP.mk0 [] (fun F B => ∃ nb2, F = [(106, .slice (some ⟨nb2, 0, none⟩) 2 2)] ∧ B = [(nb2, ob [int o.d, int o.e] 3)]) (h := fun w1 g1 => ?_) (k := ?_)
  · rw [List.nil_append]
    repeat (first | refine L.nil ?_ | refine L.buildS (c := fun _ => ?_))
    exact D.endsP1 [_] (hR := ⟨_, rfl, rfl⟩)
  refine QP.mk1 7 [(b, ob (ckCells regs vb vo c.made (osV c.loops.length y)) 103)] (fun F B => ∃ nb2, F = [(107, shut [])] ∧ B = [(nb2, ob [int o.d, int o.e] 3), (b, ob (ckCells regs vb vo (putM true c.made [o.d, o.e]) (osV c.loops.length y)) 103)]) (h := ?_) (k := ?_)
  · rintro F B ⟨nb2, rfl, rfl⟩ w1 g1
    simp only [List.cons_append, List.nil_append] at g1 ⊢
    refine L.call1 1 (put_S b _ regs vb vo c.made _ true _ [o.d, o.e] hmd h64m (by simp)) (hpre := fun w hw => Rd.own (hw.holds _ List.mem_cons_self) (by have := (List.nodup_cons.1 hw.nodup).1; simp [keys] at this ⊢; exact this.1) (Nat.le_refl _) 2 rfl) (k := ?_)
    refine L.nil ?_
    exact D.endsP1 [_, _] (hR := ⟨nb2, rfl, rfl⟩)
  refine QP.fin1 [none, none, none, none, none, none, none, some [], some [7]] 8 (nds := [[], [], [], [], [], [], [], [], []]) (hM := List.perm_middle (l₁ := [_, _])) (k := ?_)
  rintro F B ⟨nb2, rfl, rfl⟩
  simp only [List.cons_append, List.nil_append]
  repeat' (first | refine C.seq ?_ | refine C.region ?_ | refine L.nil ?_ | refine D.seq ?_ | refine L.move (k := ?_) | refine L.assign (k := ?_) | refine C.no (h1 := ?_) | refine C.ret ?_ | refine C.skip ?_ | refine D.seqR (h := ?_))
  (refine D.ret (vs := [_]) (RV.tmp rfl RV.nil) ?_; intro w' hw; exact Post.mkD 3 (hw.perm (M' := (nb2, _) :: (nb1, _) :: (xb, _) :: (b, _) :: osC 3 y []) (List.Perm.cons _ (List.perm_middle (l₁ := [_, _])))) rfl (opR_ok (y' := y) hst hG))
theorem op_S (b : Nat) (regs : Int) (vb vo : Value) (bs : List Bf) (c : Ck) (o : Lop) (y : OS) (hrg : regs ≤ 64) (hmd : c.made.length = 64) (hG : osG 1 c.loops.length (c.loops.map int) y) (hlp : c.loops.length ≤ 8) (hlr : ∀ r ∈ c.loops, 0 ≤ r ∧ r < regs) :
    Ctr Try.prog 68 [.pointer (some ⟨b, 0, none⟩), aggO o] ((b, ob (ckCells regs vb vo c.made (osV c.loops.length y)) 103) :: osC 3 y []) (fun w => Rd w (keys ((b, ob (ckCells regs vb vo c.made (osV c.loops.length y)) 103) :: osC 3 y [])) vb bs.length (bs.flatMap encB)) (opR b regs vb vo bs c o) := by
  cases hf : rfields regs bs o with
  | false => exact op_bad1 b regs vb vo bs c o y hrg hmd hG hlp hlr hf
  | true =>
  by_cases hk : o.k = 17
  · exact op_end b regs vb vo bs c o y hrg hmd hG hlp hlr hf hk
  cases hid : (cm .geq o.d 0 && c.loops.contains o.d) with
  | true => exact op_in1 b regs vb vo bs c o y hrg hmd hG hlp hlr hf hk hid _ rfl
  | false =>
  cases hie : (cm .geq o.e 0 && c.loops.contains o.e) with
  | true => exact op_in2 b regs vb vo bs c o y hrg hmd hG hlp hlr hf hk hid hie
  | false =>
  cases hlp0 : cm .eql o.k 16 with
  | true =>
    cases hmdv : mdAt c.made o.d with
    | true => exact op_in3 b regs vb vo bs c o y hrg hmd hG hlp hlr hf hk hid hie hlp0 hmdv
    | false =>
    cases h8 : cm .eql (c.loops.length : Int) 8 with
    | true => exact op_full b regs vb vo bs c o y hrg hmd hG hlp hlr hf hk hid hie hlp0 hmdv h8
    | false =>
    cases hlk : (takesM o).any (fun r => !mdAt c.made r) with
    | true => exact op_lackL b regs vb vo bs c o y hrg hmd hG hlp hlr hf hk hid hie hlp0 hmdv h8 hlk
    | false => exact op_okL b regs vb vo bs c o y hrg hmd hG hlp hlr hf hk hid hie hlp0 hmdv h8 hlk
  | false =>
    cases hlk : (takesM o).any (fun r => !mdAt c.made r) with
    | true => exact op_lackN b regs vb vo bs c o y hrg hmd hG hlp hlr hf hk hid hie hlp0 hlk
    | false => exact op_okN b regs vb vo bs c o y hrg hmd hG hlp hlr hf hk hid hie hlp0 hlk
end Go.Proofs.Ytkjlgapkcdcmgaa
