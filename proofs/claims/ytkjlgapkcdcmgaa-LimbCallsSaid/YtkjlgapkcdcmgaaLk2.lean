/- keysmithref12: field, in, Makes, Takes. -/
import Derived.Test.YtkjlgapkcdcmgaaLk1
import Derived.Test.YtkjlgapkcdcmgaaSepGZ
set_option linter.unusedVariables false
set_option linter.unusedSimpArgs false
namespace Go.Proofs.Ytkjlgapkcdcmgaa
open Go Go.RowKit SL
attribute [local irreducible] SL.L SL.C SL.D SL.N SL.H SL.QL SL.QW SL.QP

abbrev int (x : Int) : Value := .int .i64 x
def aggO (o : Lop) : Value := .agg #[.int .i64 o.k, .int .i64 o.d, .int .i64 o.e, .int .i64 o.a, .int .i64 o.b, .int .i64 o.c, .int .i64 o.buf, .int .u64 o.imm]
def fieldM (regs r : Int) (has : Bool) : Bool := if has then cm .geq r 0 && cm .lss r regs else cm .eql r (-1)
set_option maxHeartbeats 1000000 in
theorem field_S (regs : Int) (vb vo : Value) (r : Int) (has : Bool) : Ctr Try.prog 73 [progV regs vb vo, .int .i64 r, .bool has] [] tt (is (.bool (fieldM regs r has)) []) := by
  refine Ctr.enter Try.func73 Try.ntmps73 rfl rfl (fun w _ => ?_)
  unfold progV
  cases has
  all_goals (repeat (first | refine C.seq ?_ | refine C.region ?_ | refine L.nil ?_ | refine D.seq ?_ | refine L.move (k := ?_) | refine L.assign (k := ?_) | refine L.cm (c := ?_) | refine L.fieldAddr (c := ?_) | refine L.load1 0 (c := ?_) | refine L.box (c := fun _ => ?_) | refine C.yes (h1 := ?_) | refine C.no (h1 := ?_) | refine L.pickT (k := ?_) | refine L.pickF (k := ?_) | refine L.want (k := ?_) | refine L.pass (k := ?_) | refine L.not (c := ?_) | refine C.ret ?_ | refine D.thenRet ?_ | refine C.skip ?_ | exact D.endsG | (refine L.andB 4 (b2 := ?_) (h1 := fun hb => ?_) (h2 := fun hb => ?_) (k := ?_); rotate_left)))
  · refine D.ret (vs := [.bool (cm .eql r (-1))]) (RV.tmp rfl RV.nil) ?_
    intro w' hw
    exact Post.mkD 1 hw rfl ⟨rfl, rfl⟩
  · refine D.ret (vs := [.bool (cm .geq r 0 && cm .lss r regs)]) (RV.tmp rfl RV.nil) ?_
    intro w' hw
    exact Post.mkD 1 hw rfl ⟨rfl, rfl⟩
theorem int_at {xs : List Int} {i : Nat} {x : Int} (h : xs[i]? = some x) : (xs.map int)[i * 1 + 0]? = some (.int .i64 x) := by
  rw [Nat.mul_one, Nat.add_zero, List.getElem?_map, h]; rfl
set_option maxHeartbeats 1000000 in
theorem in_S (v : Value) (xs : List Int) (n : Int) (hb : xs.length ≤ 1000000) : Ctr Try.prog 52 [v, .int .i64 n] [] (fun w => Rd w [] v xs.length (xs.map int)) (is (.bool (xs.contains n)) []) := by
  refine Ctr.enter Try.func52 Try.ntmps52 rfl rfl (fun w hr => ?_)
  have s1 := hr.1
  repeat (first | refine C.seq ?_ | refine C.region ?_ | refine L.nil ?_ | refine D.seq ?_ | refine L.assign (k := ?_) | refine C.block ?_)
  refine C.loop (α := Nat) (fun i => i ≤ xs.length ∧ (xs.take i).contains n = false) (fun i => [(0, v), (1, .int .i64 n), (5, .int .i64 i)]) (fun _ => []) (fun i => xs.length - i) 0
    (fun a w hs => hs.lessE rfl (lk_cons rfl (lk_cons rfl (lk_cons rfl (fun _ _ h => lk_nil h))))) ⟨Nat.zero_le _, rfl⟩ ?_
  rintro i ⟨hi, ht⟩
  rcases Nat.lt_or_ge i xs.length with hlt | hge
  · have c1 : cm .lss (i : Int) xs.length = true := cm_lo (by omega)
    obtain ⟨x, hx⟩ : ∃ x, xs[i]? = some x := ⟨_, List.getElem?_eq_getElem hlt⟩
    have k1 := int_at hx
    have o1 := hr.2 (by omega)
    have c2 : ar .add .i64 (i : Int) 1 = ((i + 1 : Nat) : Int) := wrap_nat (by omega)
    have tk : (xs.take (i + 1)) = xs.take i ++ [x] := by rw [List.take_add_one, hx]; rfl
    by_cases hxy : x = n
    · have c3 : cm .eql x n = true := cm_yes hxy
      repeat (first | refine C.seq ?_ | refine C.region ?_ | refine L.nil ?_ | refine D.seq ?_ | refine L.move (k := ?_) | refine L.assign (k := ?_) | refine L.cm (c := ?_) | refine C.yes (h1 := ?_) | refine C.block ?_ | refine C.ret ?_ | refine D.thenRet ?_ | refine D.blkRet ?_ | refine C.skip ?_ | refine L.lenR s1 (c := ?_) | refine L.indexR s1 hlt (c := ?_) | refine L.loadF o1 k1 (c := ?_))
      refine D.ret (vs := [.bool true]) (RV.tmp rfl RV.nil) ?_
      intro w' hw
      refine Post.mkD 0 hw rfl ⟨?_, rfl⟩
      rw [show xs.contains n = true by rw [List.contains_iff_mem, ← hxy]; exact List.mem_of_getElem? hx]; rfl
    · have c3 : cm .eql x n = false := cm_no hxy
      repeat (first | refine C.seq ?_ | refine C.region ?_ | refine L.nil ?_ | refine D.seq ?_ | refine L.move (k := ?_) | refine L.assign (k := ?_) | refine L.cm (c := ?_) | refine L.ar (c := ?_) | refine C.yes (h1 := ?_) | refine C.no (h1 := ?_) | refine C.block ?_ | refine D.blkNormal ?_ | refine C.skip ?_ | refine L.lenR s1 (c := ?_) | refine L.indexR s1 hlt (c := ?_) | refine L.loadF o1 k1 (c := ?_))
      refine D.then_ fun a1 w1 hs => ⟨i + 1, ⟨by omega, ?_⟩, by omega, hs.lessE rfl (lk_cons rfl (lk_cons rfl (lk_cons rfl (fun _ _ h => lk_nil h))))⟩
      rw [tk, Bool.eq_false_iff]
      rw [Bool.eq_false_iff] at ht
      intro h
      rw [Ne, List.contains_iff_mem] at ht
      rw [List.contains_iff_mem] at h
      rcases List.mem_append.1 h with h | h
      · exact ht h
      · rw [List.mem_singleton] at h; exact hxy h.symm
  · have c1 : cm .lss (i : Int) xs.length = false := cm_lo' (by omega)
    repeat (first | refine C.seq ?_ | refine C.region ?_ | refine L.nil ?_ | refine D.seq ?_ | refine L.move (k := ?_) | refine L.assign (k := ?_) | refine L.cm (c := ?_) | refine C.no (h1 := ?_) | refine C.ret ?_ | refine C.exit ?_ | refine D.thenExit ?_ | refine D.blkExit ?_ | refine L.lenR s1 (c := ?_))
    refine D.ret (vs := [.bool false]) (RV.tmp rfl RV.nil) ?_
    intro w' hw
    rw [List.take_of_length_le hge] at ht
    exact Post.mkD 0 hw rfl ⟨by rw [ht]; rfl, rfl⟩
def makesM (o : Lop) : List Int := if (cm .eql o.k 10 || cm .eql o.k 11) || cm .eql o.k 12 then [o.d, o.e] else if cm .eql o.k 15 || cm .eql o.k 17 then [] else [o.d]
def rInts (xs : List Int) : Value → Hp → Prop := fun u B => ∃ y, osG 1 xs.length (xs.map int) y ∧ u = shut [osV xs.length y] ∧ B = osC 3 y []
theorem some_G {m : Nat} {xs : List Value} {b : Nat} (h : xs.length = m) (hm : m ≤ 1000) : osG 1 m xs (some (b, xs, m)) := by
  refine ⟨by omega, Nat.le_refl _, by unfold maxLen; omega, ?_⟩
  rw [List.take_of_length_le (by omega)]
set_option maxHeartbeats 1000000 in
theorem makes_S (o : Lop) : Ctr Try.prog 50 [aggO o] [] tt (rInts (makesM o)) := by
  refine Ctr.enter Try.func50 Try.ntmps50 rfl rfl (fun w _ => ?_)
  unfold aggO
  repeat' (first | refine C.seq ?_ | refine C.region ?_ | refine L.nil ?_ | refine D.seq ?_ | refine L.move (k := ?_) | refine L.assign (k := ?_) | refine L.cm (c := ?_) | refine L.fieldAddr (c := ?_) | refine L.load1 0 (c := ?_) | refine L.box (c := fun _ => ?_) | refine L.pickT (k := ?_) | refine L.pickF (k := ?_) | refine L.want (k := ?_) | refine L.pass (k := ?_) | refine C.block ?_ | refine D.blkNormal ?_ | refine C.ret ?_ | refine D.thenRet ?_ | refine D.blkRet ?_ | refine C.skip ?_ | refine L.buildS (c := fun _ => ?_) | exact D.endsG | (refine L.orB 3 (b2 := ?_) (h1 := fun hb => ?_) (h2 := fun hb => ?_) (k := ?_); rotate_left) | (refine C.cond (hv := by exact rfl) (h1 := fun hc => ?_) (h2 := fun hc => ?_)))
  · rename_i hc _
    rw [show makesM o = [o.d, o.e] by unfold makesM; rw [if_pos hc]]
    refine D.ret (vs := [_]) (RV.tmp rfl RV.nil) ?_
    intro w' hw
    exact Post.mk (is := [0]) hw (by decide) rfl ⟨some (_, [int o.d, int o.e], 2), some_G rfl (by simp), rfl, rfl⟩
  · rw [show makesM o = [] by simp only [makesM, *]; rfl]
    refine D.ret (vs := [_]) (RV.tmp rfl RV.nil) ?_
    intro w' hw
    exact Post.mkD 1 hw rfl ⟨none, osG.nil, rfl, rfl⟩
  · rw [show makesM o = [o.d] by simp only [makesM, *]; rfl]
    refine D.ret (vs := [_]) (RV.tmp rfl RV.nil) ?_
    intro w' hw
    exact Post.mk (is := [0]) hw (by decide) rfl ⟨some (_, [int o.d], 1), some_G rfl (by simp), rfl, rfl⟩
def takesM (o : Lop) : List Int :=
  if (cm .eql o.k 2 || cm .eql o.k 8) || cm .eql o.k 9 then [o.a] else if (cm .geq o.k 3 && cm .leq o.k 7) || cm .eql o.k 10 then [o.a, o.b]
  else if (cm .eql o.k 11 || cm .eql o.k 12) || cm .eql o.k 13 then [o.a, o.b, o.c] else if cm .eql o.k 14 && cm .neq o.a (-1) then [o.a]
  else if cm .eql o.k 15 && cm .neq o.a (-1) then [o.a, o.b] else if cm .eql o.k 15 then [o.b] else []
set_option maxHeartbeats 2000000 in
theorem takes_S (o : Lop) : Ctr Try.prog 51 [aggO o] [] tt (rInts (takesM o)) := by
  refine Ctr.enter Try.func51 Try.ntmps51 rfl rfl (fun w _ => ?_)
  unfold aggO
  repeat' (first | refine C.seq ?_ | refine C.region ?_ | refine L.nil ?_ | refine D.seq ?_ | refine L.move (k := ?_) | refine L.assign (k := ?_) | refine L.cm (c := ?_) | refine L.fieldAddr (c := ?_) | refine L.load1 0 (c := ?_) | refine L.box (c := fun _ => ?_) | refine L.pickT (k := ?_) | refine L.pickF (k := ?_) | refine L.want (k := ?_) | refine L.pass (k := ?_) | refine C.block ?_ | refine D.blkNormal ?_ | refine C.ret ?_ | refine D.thenRet ?_ | refine D.blkRet ?_ | refine C.skip ?_ | refine L.buildS (c := fun _ => ?_) | exact D.endsG | (refine L.orB 3 (b2 := ?_) (h1 := fun hb => ?_) (h2 := fun hb => ?_) (k := ?_); rotate_left) | (refine L.andB 3 (b2 := ?_) (h1 := fun hb => ?_) (h2 := fun hb => ?_) (k := ?_); rotate_left) | (refine C.cond (hv := by exact rfl) (h1 := fun hc => ?_) (h2 := fun hc => ?_)))
  · (rw [show takesM o = [o.a] by unfold takesM; (repeat' split) <;> first | rfl | (exfalso; simp_all; done)]; refine D.ret (vs := [_]) (RV.tmp rfl RV.nil) ?_; intro w' hw; exact Post.mk (is := [0]) hw (by decide) rfl ⟨some (_, [int o.a], 1), some_G rfl (by simp), rfl, rfl⟩)
  · (rw [show takesM o = [o.a, o.b] by unfold takesM; (repeat' split) <;> first | rfl | (exfalso; simp_all; done)]; refine D.ret (vs := [_]) (RV.tmp rfl RV.nil) ?_; intro w' hw; exact Post.mk (is := [0]) hw (by decide) rfl ⟨some (_, [int o.a, int o.b], 2), some_G rfl (by simp), rfl, rfl⟩)
  · (rw [show takesM o = [o.a, o.b, o.c] by unfold takesM; (repeat' split) <;> first | rfl | (exfalso; simp_all; done)]; refine D.ret (vs := [_]) (RV.tmp rfl RV.nil) ?_; intro w' hw; exact Post.mk (is := [0]) hw (by decide) rfl ⟨some (_, [int o.a, int o.b, int o.c], 3), some_G rfl (by simp), rfl, rfl⟩)
  · (rw [show takesM o = [o.a] by unfold takesM; (repeat' split) <;> first | rfl | (exfalso; simp_all; done)]; refine D.ret (vs := [_]) (RV.tmp rfl RV.nil) ?_; intro w' hw; exact Post.mk (is := [0]) hw (by decide) rfl ⟨some (_, [int o.a], 1), some_G rfl (by simp), rfl, rfl⟩)
  · (rw [show takesM o = [o.a, o.b] by unfold takesM; (repeat' split) <;> first | rfl | (exfalso; simp_all; done)]; refine D.ret (vs := [_]) (RV.tmp rfl RV.nil) ?_; intro w' hw; exact Post.mk (is := [0]) hw (by decide) rfl ⟨some (_, [int o.a, int o.b], 2), some_G rfl (by simp), rfl, rfl⟩)
  · (rw [show takesM o = [o.b] by unfold takesM; (repeat' split) <;> first | rfl | (exfalso; simp_all; done)]; refine D.ret (vs := [_]) (RV.tmp rfl RV.nil) ?_; intro w' hw; exact Post.mk (is := [0]) hw (by decide) rfl ⟨some (_, [int o.b], 1), some_G rfl (by simp), rfl, rfl⟩)
  · (rw [show takesM o = [] by unfold takesM; (repeat' split) <;> first | rfl | (exfalso; simp_all; done)]; refine D.ret (vs := [_]) (RV.tmp rfl RV.nil) ?_; intro w' hw; exact Post.mkD 1 hw rfl ⟨none, osG.nil, rfl, rfl⟩)
end Go.Proofs.Ytkjlgapkcdcmgaa
