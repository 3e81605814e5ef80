/- Comparing numbers; rows of cells; Pick. -/
import Derived.Test.YtpemoeincepilaaDoorSepP
import Derived.Test.YtpemoeincepilaaDoorTy
set_option linter.unusedVariables false
set_option linter.unusedSimpArgs false
namespace Go.Proofs.YtpemoeincepilaaDoor
open Go Go.RowKit SL
attribute [local irreducible] SL.L SL.C SL.D SL.N SL.H SL.QL SL.QW SL.QP

theorem cm_no {a b : Int} (h : a ≠ b) : cm .eql a b = false := by show (a == b) = false; rwa [beq_eq_false_iff_ne]
theorem cm_yes {a b : Int} (h : a = b) : cm .eql a b = true := by show (a == b) = true; rwa [beq_iff_eq]
theorem cm_ne {a b : Int} (h : a ≠ b) : cm .neq a b = true := by show (a != b) = true; simpa using h
theorem cm_ne' {a b : Int} (h : a = b) : cm .neq a b = false := by show (a != b) = false; simpa using h
theorem cm_lo {a b : Int} (h : a < b) : cm .lss a b = true := by show decide (a < b) = true; simpa using h
theorem cm_lo' {a b : Int} (h : b ≤ a) : cm .lss a b = false := by show decide (a < b) = false; simpa using h
theorem cm_gt {a b : Int} (h : b < a) : cm .gtr a b = true := by show decide (a > b) = true; simpa using h
theorem cm_gt' {a b : Int} (h : a ≤ b) : cm .gtr a b = false := by show decide (a > b) = false; simpa using h
theorem cm_le {a b : Int} (h : a ≤ b) : cm .leq a b = true := by show decide (a ≤ b) = true; simpa using h
theorem cm_le' {a b : Int} (h : b < a) : cm .leq a b = false := by show decide (a ≤ b) = false; simpa using h
theorem cm_ge {a b : Int} (h : b ≤ a) : cm .geq a b = true := by show decide (a ≥ b) = true; simpa using h
theorem cm_ge' {a b : Int} (h : a < b) : cm .geq a b = false := by show decide (a ≥ b) = false; simpa using h
theorem wrap_nat {n : Int} (h : 0 ≤ n ∧ n ≤ 2000000) : IntKind.i64.wrap n = n := by
  simp only [IntKind.wrap, IntKind.bits, IntKind.signed]
  simp
  split <;> omega
theorem u64_wrap {n : Int} (h : 0 ≤ n ∧ n < 18446744073709551616) : IntKind.u64.wrap n = n := by
  simp only [IntKind.wrap, IntKind.bits, IntKind.signed]
  simp
  omega
theorem i32_wrap {n : Int} (h : 0 ≤ n ∧ n < 2000000) : IntKind.i32.wrap n = n := by
  simp only [IntKind.wrap, IntKind.bits, IntKind.signed]
  simp
  split <;> omega
theorem flat_len {α : Type} {n : Nat} {enc : α → List Value} (he : ∀ x, (enc x).length = n) (xs : List α) : (xs.flatMap enc).length = xs.length * n := by
  induction xs with
  | nil => simp
  | cons x xs ih => rw [List.flatMap_cons, List.length_append, ih, he, List.length_cons, Nat.add_mul]; omega
theorem flat_get {α : Type} {n : Nat} {enc : α → List Value} (he : ∀ x, (enc x).length = n) : ∀ (xs : List α) (i : Nat) (x : α), xs[i]? = some x → ∀ j, j < n → (xs.flatMap enc)[i * n + j]? = (enc x)[j]?
  | [], i, x, h, _, _ => by simp at h
  | y :: xs, 0, x, h, j, hj => by
    cases h
    rw [List.flatMap_cons, List.getElem?_append_left (by rw [he]; omega)]; simp
  | y :: xs, i + 1, x, h, j, hj => by
    rw [List.flatMap_cons, List.getElem?_append_right (by rw [he, Nat.add_mul]; omega), he]
    have e : (i + 1) * n + j - n = i * n + j := by rw [Nat.add_mul]; omega
    rw [e]
    exact flat_get he xs i x (by simpa using h) j hj
theorem flat_at {α : Type} {n : Nat} {enc : α → List Value} (he : ∀ x, (enc x).length = n) {xs : List α} {i : Nat} {x : α} (hx : xs[i]? = some x) : ((xs.flatMap enc).drop (i * n)).take n = enc x ∧ i * n + n ≤ (xs.flatMap enc).length := by
  have hi : i < xs.length := (List.getElem?_eq_some_iff.1 hx).1
  have hle : i * n + n ≤ (xs.flatMap enc).length := by
    rw [flat_len he]
    have := Nat.mul_le_mul_right n (show i + 1 ≤ xs.length by omega)
    rw [Nat.add_mul] at this; omega
  refine ⟨?_, hle⟩
  apply List.ext_getElem?
  intro j
  rw [List.getElem?_take]
  split
  · rename_i hj
    rw [List.getElem?_drop]
    exact flat_get he xs i x hx j hj
  · rename_i hj
    rw [List.getElem?_eq_none (by rw [he]; omega)]
theorem take_succ_eq {α : Type} {xs : List α} {i : Nat} {x : α} (h : xs[i]? = some x) : xs.take (i + 1) = xs.take i ++ [x] := by
  rw [List.take_add_one, h]; rfl
/-- Pick. -/
def pickI (n m : Int) : Int := if m < 1 then 0 else n % m
theorem pick_S (n m : Int) (hn : -9223372036854775808 ≤ n ∧ n ≤ 9223372036854775807) (hm : -9223372036854775808 ≤ m ∧ m ≤ 9223372036854775807) : Ctr Tryd.prog 17 [.int .i64 n, .int .i64 m] [] tt (is (.int .i64 (pickI n m)) []) := by
  refine Ctr.enter Tryd.func17 Tryd.ntmps17 rfl rfl (fun w _ => ?_)
  unfold pickI
  by_cases h : m < 1
  · have c1 : cm .lss m 1 = true := cm_lo h
    rw [if_pos h]
    repeat (first | refine C.seq ?_ | refine C.region ?_ | refine L.nil ?_ | refine D.seq ?_ | refine L.move (k := ?_) | refine L.assign (k := ?_) | refine L.cm (c := ?_) | refine L.ar (c := ?_) | refine L.fieldAddr (c := ?_) | refine L.load1 0 (c := ?_) | refine L.load1 1 (c := ?_) | refine L.load1 2 (c := ?_) | refine L.load1 3 (c := ?_) | refine L.load1 4 (c := ?_) | refine L.loadA 0 (c := ?_) | refine L.loadA 1 (c := ?_) | refine L.loadA 2 (c := ?_) | refine L.loadA 3 (c := ?_) | refine L.loadA 4 (c := ?_) | refine L.storeV 0 (c := ?_) | refine L.storeV 1 (c := ?_) | refine L.storeV 2 (c := ?_) | refine L.storeV 3 (c := ?_) | refine L.storeV 4 (c := ?_) | refine L.extract (c := ?_) | refine L.build (c := ?_) | refine L.alloc (c := fun _ => ?_) | refine L.box (c := fun _ => ?_) | refine L.nilCheck (k := ?_) | refine C.yes (h1 := ?_) | refine C.no (h1 := ?_) | refine L.pickT (k := ?_) | refine L.pickF (k := ?_) | refine L.want (k := ?_) | refine L.pass (k := ?_) | refine L.not (c := ?_) | refine L.lenS (c := ?_) | refine L.strNe (c := ?_) | refine L.strEq (c := ?_) | refine L.lenV (c := ?_) | refine C.block ?_ | refine D.blkNormal ?_ | refine C.ret ?_ | refine D.thenRet ?_ | refine D.blkRet ?_ | refine C.exit ?_ | refine D.thenExit ?_ | refine D.blkExit ?_ | refine D.blkOther (h := ?_) | refine C.skip ?_ | refine L.convI (c := ?_) | refine L.makeMap (c := fun _ => ?_) | refine D.any ?_ | refine D.seqR (h := ?_) | refine L.eqA (c := ?_) | refine L.neA (c := ?_) | refine L.funNil (c := ?_) | refine L.eqB (c := ?_) | refine L.neB (c := ?_) | refine L.passU (k := ?_) | refine L.makeFunc (k := ?_) | refine L.buildS (c := fun _ => ?_) | exact D.endsQ | refine QL.fin ?_ | refine C.quiet (h := ?_) | refine N.fin (h := ?_) | refine L.assertY (c := ?_) | refine L.assertN (c := ?_) | refine N.one (i := 0) (h := ?_) | refine N.one (i := 1) (h := ?_) | refine N.one (i := 2) (h := ?_) | refine N.one (i := 3) (h := ?_) | refine N.one (i := 4) (h := ?_) | refine N.one (i := 5) (h := ?_) | refine N.one (i := 6) (h := ?_) | refine N.one (i := 7) (h := ?_) | refine N.one (i := 8) (h := ?_) | refine N.one (i := 9) (h := ?_) | refine N.one (i := 10) (h := ?_) | refine N.one (i := 11) (h := ?_) | (refine QL.step (v := ?_) (by exact rfl) (by exact rfl) ?_ ?_; rotate_left))
    refine D.ret (vs := [.int .i64 0]) (RV.tmp rfl RV.nil) ?_
    intro w' hw
    exact Post.mk (is := []) hw (by decide) rfl ⟨rfl, rfl⟩
  · have c1 : cm .lss m 1 = false := cm_lo' (by omega)
    have c0 : arOk .rem .i64 .i64 m = true := by show (IntKind.i64 == IntKind.i64 && m != 0) = true; simp; omega
    rw [if_neg h]
    by_cases h2 : n.tmod m < 0
    · have c2 : cm .lss (n.tmod m) 0 = true := cm_lo h2
      have c3 : ar .rem .i64 n m = n.tmod m := rfl
      have hlo := Int.tmod_lt_of_pos n (show 0 < m by omega)
      have c4 : ar .add .i64 (n.tmod m) m = n % m := by
        have h1 := Int.tmod_eq_emod (a := n) (b := m)
        have h3 := Int.emod_nonneg n (show m ≠ 0 by omega)
        have h4 := Int.emod_lt_of_pos n (show 0 < m by omega)
        have e : n.tmod m + m = n % m := by split at h1 <;> omega
        show IntKind.i64.wrap (n.tmod m + m) = _
        rw [e]
        simp only [IntKind.wrap, IntKind.bits, IntKind.signed]
        simp
        split <;> omega
      repeat (first | refine C.seq ?_ | refine C.region ?_ | refine L.nil ?_ | refine D.seq ?_ | refine L.move (k := ?_) | refine L.assign (k := ?_) | refine L.cm (c := ?_) | refine L.ar (c := ?_) | refine L.fieldAddr (c := ?_) | refine L.load1 0 (c := ?_) | refine L.load1 1 (c := ?_) | refine L.load1 2 (c := ?_) | refine L.load1 3 (c := ?_) | refine L.load1 4 (c := ?_) | refine L.loadA 0 (c := ?_) | refine L.loadA 1 (c := ?_) | refine L.loadA 2 (c := ?_) | refine L.loadA 3 (c := ?_) | refine L.loadA 4 (c := ?_) | refine L.storeV 0 (c := ?_) | refine L.storeV 1 (c := ?_) | refine L.storeV 2 (c := ?_) | refine L.storeV 3 (c := ?_) | refine L.storeV 4 (c := ?_) | refine L.extract (c := ?_) | refine L.build (c := ?_) | refine L.alloc (c := fun _ => ?_) | refine L.box (c := fun _ => ?_) | refine L.nilCheck (k := ?_) | refine C.yes (h1 := ?_) | refine C.no (h1 := ?_) | refine L.pickT (k := ?_) | refine L.pickF (k := ?_) | refine L.want (k := ?_) | refine L.pass (k := ?_) | refine L.not (c := ?_) | refine L.lenS (c := ?_) | refine L.strNe (c := ?_) | refine L.strEq (c := ?_) | refine L.lenV (c := ?_) | refine C.block ?_ | refine D.blkNormal ?_ | refine C.ret ?_ | refine D.thenRet ?_ | refine D.blkRet ?_ | refine C.exit ?_ | refine D.thenExit ?_ | refine D.blkExit ?_ | refine D.blkOther (h := ?_) | refine C.skip ?_ | refine L.convI (c := ?_) | refine L.makeMap (c := fun _ => ?_) | refine D.any ?_ | refine D.seqR (h := ?_) | refine L.eqA (c := ?_) | refine L.neA (c := ?_) | refine L.funNil (c := ?_) | refine L.eqB (c := ?_) | refine L.neB (c := ?_) | refine L.passU (k := ?_) | refine L.makeFunc (k := ?_) | refine L.buildS (c := fun _ => ?_) | exact D.endsQ | refine QL.fin ?_ | refine C.quiet (h := ?_) | refine N.fin (h := ?_) | refine L.assertY (c := ?_) | refine L.assertN (c := ?_) | refine N.one (i := 0) (h := ?_) | refine N.one (i := 1) (h := ?_) | refine N.one (i := 2) (h := ?_) | refine N.one (i := 3) (h := ?_) | refine N.one (i := 4) (h := ?_) | refine N.one (i := 5) (h := ?_) | refine N.one (i := 6) (h := ?_) | refine N.one (i := 7) (h := ?_) | refine N.one (i := 8) (h := ?_) | refine N.one (i := 9) (h := ?_) | refine N.one (i := 10) (h := ?_) | refine N.one (i := 11) (h := ?_) | (refine QL.step (v := ?_) (by exact rfl) (by exact rfl) ?_ ?_; rotate_left) | refine L.ar (ho := c0) (c := ?_))
      refine D.ret (vs := [.int .i64 (n % m)]) (RV.tmp rfl RV.nil) ?_
      intro w' hw
      exact Post.mk (is := []) hw (by decide) rfl ⟨rfl, rfl⟩
    · have c2 : cm .lss (n.tmod m) 0 = false := cm_lo' (by omega)
      have c3 : ar .rem .i64 n m = n.tmod m := rfl
      repeat (first | refine C.seq ?_ | refine C.region ?_ | refine L.nil ?_ | refine D.seq ?_ | refine L.move (k := ?_) | refine L.assign (k := ?_) | refine L.cm (c := ?_) | refine L.ar (c := ?_) | refine L.fieldAddr (c := ?_) | refine L.load1 0 (c := ?_) | refine L.load1 1 (c := ?_) | refine L.load1 2 (c := ?_) | refine L.load1 3 (c := ?_) | refine L.load1 4 (c := ?_) | refine L.loadA 0 (c := ?_) | refine L.loadA 1 (c := ?_) | refine L.loadA 2 (c := ?_) | refine L.loadA 3 (c := ?_) | refine L.loadA 4 (c := ?_) | refine L.storeV 0 (c := ?_) | refine L.storeV 1 (c := ?_) | refine L.storeV 2 (c := ?_) | refine L.storeV 3 (c := ?_) | refine L.storeV 4 (c := ?_) | refine L.extract (c := ?_) | refine L.build (c := ?_) | refine L.alloc (c := fun _ => ?_) | refine L.box (c := fun _ => ?_) | refine L.nilCheck (k := ?_) | refine C.yes (h1 := ?_) | refine C.no (h1 := ?_) | refine L.pickT (k := ?_) | refine L.pickF (k := ?_) | refine L.want (k := ?_) | refine L.pass (k := ?_) | refine L.not (c := ?_) | refine L.lenS (c := ?_) | refine L.strNe (c := ?_) | refine L.strEq (c := ?_) | refine L.lenV (c := ?_) | refine C.block ?_ | refine D.blkNormal ?_ | refine C.ret ?_ | refine D.thenRet ?_ | refine D.blkRet ?_ | refine C.exit ?_ | refine D.thenExit ?_ | refine D.blkExit ?_ | refine D.blkOther (h := ?_) | refine C.skip ?_ | refine L.convI (c := ?_) | refine L.makeMap (c := fun _ => ?_) | refine D.any ?_ | refine D.seqR (h := ?_) | refine L.eqA (c := ?_) | refine L.neA (c := ?_) | refine L.funNil (c := ?_) | refine L.eqB (c := ?_) | refine L.neB (c := ?_) | refine L.passU (k := ?_) | refine L.makeFunc (k := ?_) | refine L.buildS (c := fun _ => ?_) | exact D.endsQ | refine QL.fin ?_ | refine C.quiet (h := ?_) | refine N.fin (h := ?_) | refine L.assertY (c := ?_) | refine L.assertN (c := ?_) | refine N.one (i := 0) (h := ?_) | refine N.one (i := 1) (h := ?_) | refine N.one (i := 2) (h := ?_) | refine N.one (i := 3) (h := ?_) | refine N.one (i := 4) (h := ?_) | refine N.one (i := 5) (h := ?_) | refine N.one (i := 6) (h := ?_) | refine N.one (i := 7) (h := ?_) | refine N.one (i := 8) (h := ?_) | refine N.one (i := 9) (h := ?_) | refine N.one (i := 10) (h := ?_) | refine N.one (i := 11) (h := ?_) | (refine QL.step (v := ?_) (by exact rfl) (by exact rfl) ?_ ?_; rotate_left) | refine L.ar (ho := c0) (c := ?_))
      refine D.ret (vs := [.int .i64 (n.tmod m)]) (RV.tmp rfl RV.nil) ?_
      intro w' hw
      exact Post.mk (is := []) hw (by decide) rfl ⟨by
        have h1 := Int.tmod_eq_emod (a := n) (b := m)
        have h3 := Int.emod_lt_of_pos n (show 0 < m by omega)
        have e : n.tmod m = n % m := by split at h1 <;> omega
        rw [← e]; rfl, rfl⟩

end Go.Proofs.YtpemoeincepilaaDoor
