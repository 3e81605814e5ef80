/- keysmithkit.Same, slices.Equal. -/
import Derived.Test.YtkjlgapkcdcmgaaLk17
set_option linter.unusedVariables false
set_option linter.unusedSimpArgs false
namespace Go.Proofs.Ytkjlgapkcdcmgaa
open Go Go.RowKit SL
attribute [local irreducible] SL.L SL.C SL.D SL.N SL.H SL.QL SL.QW SL.QP

theorem take_eq_succ {α : Type} {xs ys : List α} {i : Nat} {x : α} (hx : xs[i]? = some x) (hy : ys[i]? = some x) (h : xs.take i = ys.take i) : xs.take (i + 1) = ys.take (i + 1) := by
  rw [List.take_add_one, List.take_add_one, hx, hy, h]
theorem ne_of_at {α : Type} {xs ys : List α} {i : Nat} {x y : α} (hx : xs[i]? = some x) (hy : ys[i]? = some y) (h : x ≠ y) : xs ≠ ys := fun e => by
  rw [e, hy] at hx; cases hx; exact h rfl
structure Ev where
  op : Int
  at_ : Int
deriving DecidableEq
def encE (e : Ev) : List Value := [.int .i64 e.op, .int .i64 e.at_]
theorem encE_len (e : Ev) : (encE e).length = 2 := rfl
theorem encE_ex (e : Ev) : encE e = [.int .i64 e.op, .int .i64 e.at_] := rfl
abbrev u64 (x : Int) : Value := .int .u64 x
theorem enc_at' {α : Type} {enc : α → Value} {xs : List α} {i : Nat} {x : α} (h : xs[i]? = some x) : (xs.map enc)[i * 1 + 0]? = some (enc x) := enc_at h

set_option maxHeartbeats 2000000 in
theorem sameB_S (v u : Value) (xs ys : List Bool) (hb : xs.length ≤ 1000000) : Ctr Try.prog 21 [v, u] []
    (fun w => Rd w [] v xs.length (xs.map Value.bool) ∧ Rd w [] u ys.length (ys.map Value.bool)) (is (.bool (decide (xs = ys))) []) := by
  refine Ctr.enter Try.func21 Try.ntmps21 rfl rfl (fun w hr => ?_)
  have s1 := hr.1.1
  have s2 := hr.2.1
  by_cases hl : xs.length ≠ ys.length
  · have c0 : cm .neq (xs.length : Int) ys.length = true := cm_ne (by omega)
    repeat' (first | refine C.seq ?_ | refine C.region ?_ | refine L.nil ?_ | refine D.seq ?_ | refine L.move (k := ?_) | refine L.assign (k := ?_) | refine L.cm (c := ?_) | refine C.yes (h1 := ?_) | refine C.ret ?_ | refine D.thenRet ?_ | refine L.lenR s1 (c := ?_) | refine L.lenR s2 (c := ?_))
    (refine D.ret (vs := [_]) (RV.tmp rfl RV.nil) ?_; intro w' hw; exact Post.mk (is := []) hw List.nodup_nil rfl ⟨by rw [decide_eq_false (fun e => hl (by rw [e]))]; rfl, rfl⟩)
  replace hl : xs.length = ys.length := by omega
  have c0 : cm .neq (xs.length : Int) ys.length = false := cm_ne' (by omega)
  repeat' (first | refine C.seq ?_ | refine C.region ?_ | refine L.nil ?_ | refine D.seq ?_ | refine L.move (k := ?_) | refine L.assign (k := ?_) | refine L.cm (c := ?_) | refine C.no (h1 := ?_) | refine C.block ?_ | refine C.skip ?_ | refine L.lenR s1 (c := ?_) | refine L.lenR s2 (c := ?_))
  refine C.loop (α := Nat) (fun i => i ≤ xs.length ∧ xs.take i = ys.take i) (fun i => [(0, v), (1, u), (5, .int .i64 i)]) (fun _ => []) (fun i => xs.length - i) 0
    (fun a w hs => hs.lessE rfl (lk_cons rfl (lk_cons rfl (lk_cons rfl (fun _ _ h => lk_nil h))))) ⟨Nat.zero_le _, rfl⟩ ?_
  rintro i ⟨hi, ht⟩
  rcases Nat.lt_or_ge i xs.length with hlt | hge
  · have c1 : cm .lss (i : Int) xs.length = true := cm_lo (by omega)
    obtain ⟨x, hx⟩ : ∃ x, xs[i]? = some x := ⟨_, List.getElem?_eq_getElem hlt⟩
    obtain ⟨z, hy⟩ : ∃ z, ys[i]? = some z := ⟨_, List.getElem?_eq_getElem (by omega)⟩
    have o1 := hr.1.2 (by omega)
    have o2 := hr.2.2 (by omega)
    have hly : i < ys.length := by omega
    have c2 : ar .add .i64 (i : Int) 1 = ((i + 1 : Nat) : Int) := wrap_nat (by omega)
    by_cases hxy : x = z
    · have c3 : (x != z) = false := by simp [hxy]
      repeat' (first | refine C.seq ?_ | refine C.region ?_ | refine L.nil ?_ | refine D.seq ?_ | refine L.move (k := ?_) | refine L.assign (k := ?_) | refine L.cm (c := ?_) | refine L.ar (c := ?_) | refine C.yes (h1 := ?_) | refine C.no (h1 := ?_) | refine C.block ?_ | refine D.blkNormal ?_ | refine C.skip ?_ | refine L.neB (c := ?_) | exact D.endsQ | refine QL.fin ?_ | refine C.quiet (h := ?_) | (refine QL.step (v := ?_) (by exact rfl) (by exact rfl) ?_ ?_; rotate_left) | refine L.lenR s1 (c := ?_) | refine L.lenR s2 (c := ?_) | refine L.indexR s1 hlt (c := ?_) | refine L.indexR s2 hly (c := ?_) | refine L.loadF o1 (enc_at (enc := Value.bool) hx) (c := ?_) | refine L.loadF o2 (enc_at (enc := Value.bool) hy) (c := ?_))
      exact D.then_ fun a1 w1 hs => ⟨i + 1, ⟨by omega, take_eq_succ hx (by rw [hxy]; exact hy) ht⟩, by omega, hs.lessE rfl (lk_cons rfl (lk_cons rfl (lk_cons rfl (fun _ _ h => lk_nil h))))⟩
    · have c3 : (x != z) = true := by simp [hxy]
      repeat' (first | refine C.seq ?_ | refine C.region ?_ | refine L.nil ?_ | refine D.seq ?_ | refine L.move (k := ?_) | refine L.assign (k := ?_) | refine L.cm (c := ?_) | refine C.yes (h1 := ?_) | refine C.block ?_ | refine C.ret ?_ | refine D.thenRet ?_ | refine D.blkRet ?_ | refine C.skip ?_ | refine L.neB (c := ?_) | exact D.endsQ | refine QL.fin ?_ | refine C.quiet (h := ?_) | (refine QL.step (v := ?_) (by exact rfl) (by exact rfl) ?_ ?_; rotate_left) | refine L.lenR s1 (c := ?_) | refine L.lenR s2 (c := ?_) | refine L.indexR s1 hlt (c := ?_) | refine L.indexR s2 hly (c := ?_) | refine L.loadF o1 (enc_at (enc := Value.bool) hx) (c := ?_) | refine L.loadF o2 (enc_at (enc := Value.bool) hy) (c := ?_))
      (refine D.ret (vs := [_]) (RV.tmp rfl RV.nil) ?_; intro w' hw; exact Post.mk (is := []) hw List.nodup_nil rfl ⟨by rw [decide_eq_false (ne_of_at hx hy hxy)]; rfl, rfl⟩)
  · have c1 : cm .lss (i : Int) xs.length = false := cm_lo' (by omega)
    repeat' (first | refine C.seq ?_ | refine C.region ?_ | refine L.nil ?_ | refine D.seq ?_ | refine L.move (k := ?_) | refine L.assign (k := ?_) | refine L.cm (c := ?_) | refine C.no (h1 := ?_) | refine C.ret ?_ | refine C.exit ?_ | refine D.thenExit ?_ | refine D.blkExit ?_ | refine L.lenR s1 (c := ?_) | refine L.lenR s2 (c := ?_))
    rw [List.take_of_length_le hge, List.take_of_length_le (by omega)] at ht
    (refine D.ret (vs := [_]) (RV.tmp rfl RV.nil) ?_; intro w' hw; exact Post.mk (is := []) hw List.nodup_nil rfl ⟨by rw [decide_eq_true ht]; rfl, rfl⟩)

set_option maxHeartbeats 2000000 in
theorem sameU_S (v u : Value) (xs ys : List Int) (hb : xs.length ≤ 1000000) : Ctr Try.prog 29 [v, u] []
    (fun w => Rd w [] v xs.length (xs.map u64) ∧ Rd w [] u ys.length (ys.map u64)) (is (.bool (decide (xs = ys))) []) := by
  refine Ctr.enter Try.func29 Try.ntmps29 rfl rfl (fun w hr => ?_)
  have s1 := hr.1.1
  have s2 := hr.2.1
  by_cases hl : xs.length ≠ ys.length
  · have c0 : cm .neq (xs.length : Int) ys.length = true := cm_ne (by omega)
    repeat' (first | refine C.seq ?_ | refine C.region ?_ | refine L.nil ?_ | refine D.seq ?_ | refine L.move (k := ?_) | refine L.assign (k := ?_) | refine L.cm (c := ?_) | refine C.yes (h1 := ?_) | refine C.ret ?_ | refine D.thenRet ?_ | refine L.lenR s1 (c := ?_) | refine L.lenR s2 (c := ?_))
    (refine D.ret (vs := [_]) (RV.tmp rfl RV.nil) ?_; intro w' hw; exact Post.mk (is := []) hw List.nodup_nil rfl ⟨by rw [decide_eq_false (fun e => hl (by rw [e]))]; rfl, rfl⟩)
  replace hl : xs.length = ys.length := by omega
  have c0 : cm .neq (xs.length : Int) ys.length = false := cm_ne' (by omega)
  repeat' (first | refine C.seq ?_ | refine C.region ?_ | refine L.nil ?_ | refine D.seq ?_ | refine L.move (k := ?_) | refine L.assign (k := ?_) | refine L.cm (c := ?_) | refine C.no (h1 := ?_) | refine C.block ?_ | refine C.skip ?_ | refine L.lenR s1 (c := ?_) | refine L.lenR s2 (c := ?_))
  refine C.loop (α := Nat) (fun i => i ≤ xs.length ∧ xs.take i = ys.take i) (fun i => [(0, v), (1, u), (5, .int .i64 i)]) (fun _ => []) (fun i => xs.length - i) 0
    (fun a w hs => hs.lessE rfl (lk_cons rfl (lk_cons rfl (lk_cons rfl (fun _ _ h => lk_nil h))))) ⟨Nat.zero_le _, rfl⟩ ?_
  rintro i ⟨hi, ht⟩
  rcases Nat.lt_or_ge i xs.length with hlt | hge
  · have c1 : cm .lss (i : Int) xs.length = true := cm_lo (by omega)
    obtain ⟨x, hx⟩ : ∃ x, xs[i]? = some x := ⟨_, List.getElem?_eq_getElem hlt⟩
    obtain ⟨z, hy⟩ : ∃ z, ys[i]? = some z := ⟨_, List.getElem?_eq_getElem (by omega)⟩
    have o1 := hr.1.2 (by omega)
    have o2 := hr.2.2 (by omega)
    have hly : i < ys.length := by omega
    have c2 : ar .add .i64 (i : Int) 1 = ((i + 1 : Nat) : Int) := wrap_nat (by omega)
    by_cases hxy : x = z
    · have c3 : cm .neq x z = false := cm_ne' hxy
      repeat' (first | refine C.seq ?_ | refine C.region ?_ | refine L.nil ?_ | refine D.seq ?_ | refine L.move (k := ?_) | refine L.assign (k := ?_) | refine L.cm (c := ?_) | refine L.ar (c := ?_) | refine C.yes (h1 := ?_) | refine C.no (h1 := ?_) | refine C.block ?_ | refine D.blkNormal ?_ | refine C.skip ?_ | exact D.endsQ | refine QL.fin ?_ | refine C.quiet (h := ?_) | (refine QL.step (v := ?_) (by exact rfl) (by exact rfl) ?_ ?_; rotate_left) | refine L.lenR s1 (c := ?_) | refine L.lenR s2 (c := ?_) | refine L.indexR s1 hlt (c := ?_) | refine L.indexR s2 hly (c := ?_) | refine L.loadF o1 (enc_at (enc := u64) hx) (c := ?_) | refine L.loadF o2 (enc_at (enc := u64) hy) (c := ?_))
      exact D.then_ fun a1 w1 hs => ⟨i + 1, ⟨by omega, take_eq_succ hx (by rw [hxy]; exact hy) ht⟩, by omega, hs.lessE rfl (lk_cons rfl (lk_cons rfl (lk_cons rfl (fun _ _ h => lk_nil h))))⟩
    · have c3 : cm .neq x z = true := cm_ne hxy
      repeat' (first | refine C.seq ?_ | refine C.region ?_ | refine L.nil ?_ | refine D.seq ?_ | refine L.move (k := ?_) | refine L.assign (k := ?_) | refine L.cm (c := ?_) | refine C.yes (h1 := ?_) | refine C.block ?_ | refine C.ret ?_ | refine D.thenRet ?_ | refine D.blkRet ?_ | refine C.skip ?_ | exact D.endsQ | refine QL.fin ?_ | refine C.quiet (h := ?_) | (refine QL.step (v := ?_) (by exact rfl) (by exact rfl) ?_ ?_; rotate_left) | refine L.lenR s1 (c := ?_) | refine L.lenR s2 (c := ?_) | refine L.indexR s1 hlt (c := ?_) | refine L.indexR s2 hly (c := ?_) | refine L.loadF o1 (enc_at (enc := u64) hx) (c := ?_) | refine L.loadF o2 (enc_at (enc := u64) hy) (c := ?_))
      (refine D.ret (vs := [_]) (RV.tmp rfl RV.nil) ?_; intro w' hw; exact Post.mk (is := []) hw List.nodup_nil rfl ⟨by rw [decide_eq_false (ne_of_at hx hy hxy)]; rfl, rfl⟩)
  · have c1 : cm .lss (i : Int) xs.length = false := cm_lo' (by omega)
    repeat' (first | refine C.seq ?_ | refine C.region ?_ | refine L.nil ?_ | refine D.seq ?_ | refine L.move (k := ?_) | refine L.assign (k := ?_) | refine L.cm (c := ?_) | refine C.no (h1 := ?_) | refine C.ret ?_ | refine C.exit ?_ | refine D.thenExit ?_ | refine D.blkExit ?_ | refine L.lenR s1 (c := ?_) | refine L.lenR s2 (c := ?_))
    rw [List.take_of_length_le hge, List.take_of_length_le (by omega)] at ht
    (refine D.ret (vs := [_]) (RV.tmp rfl RV.nil) ?_; intro w' hw; exact Post.mk (is := []) hw List.nodup_nil rfl ⟨by rw [decide_eq_true ht]; rfl, rfl⟩)

set_option maxHeartbeats 2000000 in
theorem sameI_S (v u : Value) (xs ys : List Int) (hb : xs.length ≤ 1000000) : Ctr Try.prog 43 [v, u] []
    (fun w => Rd w [] v xs.length (xs.map int) ∧ Rd w [] u ys.length (ys.map int)) (is (.bool (decide (xs = ys))) []) := by
  refine Ctr.enter Try.func43 Try.ntmps43 rfl rfl (fun w hr => ?_)
  have s1 := hr.1.1
  have s2 := hr.2.1
  by_cases hl : xs.length ≠ ys.length
  · have c0 : cm .neq (xs.length : Int) ys.length = true := cm_ne (by omega)
    repeat' (first | refine C.seq ?_ | refine C.region ?_ | refine L.nil ?_ | refine D.seq ?_ | refine L.move (k := ?_) | refine L.assign (k := ?_) | refine L.cm (c := ?_) | refine C.yes (h1 := ?_) | refine C.ret ?_ | refine D.thenRet ?_ | refine L.lenR s1 (c := ?_) | refine L.lenR s2 (c := ?_))
    (refine D.ret (vs := [_]) (RV.tmp rfl RV.nil) ?_; intro w' hw; exact Post.mk (is := []) hw List.nodup_nil rfl ⟨by rw [decide_eq_false (fun e => hl (by rw [e]))]; rfl, rfl⟩)
  replace hl : xs.length = ys.length := by omega
  have c0 : cm .neq (xs.length : Int) ys.length = false := cm_ne' (by omega)
  repeat' (first | refine C.seq ?_ | refine C.region ?_ | refine L.nil ?_ | refine D.seq ?_ | refine L.move (k := ?_) | refine L.assign (k := ?_) | refine L.cm (c := ?_) | refine C.no (h1 := ?_) | refine C.block ?_ | refine C.skip ?_ | refine L.lenR s1 (c := ?_) | refine L.lenR s2 (c := ?_))
  refine C.loop (α := Nat) (fun i => i ≤ xs.length ∧ xs.take i = ys.take i) (fun i => [(0, v), (1, u), (5, .int .i64 i)]) (fun _ => []) (fun i => xs.length - i) 0
    (fun a w hs => hs.lessE rfl (lk_cons rfl (lk_cons rfl (lk_cons rfl (fun _ _ h => lk_nil h))))) ⟨Nat.zero_le _, rfl⟩ ?_
  rintro i ⟨hi, ht⟩
  rcases Nat.lt_or_ge i xs.length with hlt | hge
  · have c1 : cm .lss (i : Int) xs.length = true := cm_lo (by omega)
    obtain ⟨x, hx⟩ : ∃ x, xs[i]? = some x := ⟨_, List.getElem?_eq_getElem hlt⟩
    obtain ⟨z, hy⟩ : ∃ z, ys[i]? = some z := ⟨_, List.getElem?_eq_getElem (by omega)⟩
    have o1 := hr.1.2 (by omega)
    have o2 := hr.2.2 (by omega)
    have hly : i < ys.length := by omega
    have c2 : ar .add .i64 (i : Int) 1 = ((i + 1 : Nat) : Int) := wrap_nat (by omega)
    by_cases hxy : x = z
    · have c3 : cm .neq x z = false := cm_ne' hxy
      repeat' (first | refine C.seq ?_ | refine C.region ?_ | refine L.nil ?_ | refine D.seq ?_ | refine L.move (k := ?_) | refine L.assign (k := ?_) | refine L.cm (c := ?_) | refine L.ar (c := ?_) | refine C.yes (h1 := ?_) | refine C.no (h1 := ?_) | refine C.block ?_ | refine D.blkNormal ?_ | refine C.skip ?_ | exact D.endsQ | refine QL.fin ?_ | refine C.quiet (h := ?_) | (refine QL.step (v := ?_) (by exact rfl) (by exact rfl) ?_ ?_; rotate_left) | refine L.lenR s1 (c := ?_) | refine L.lenR s2 (c := ?_) | refine L.indexR s1 hlt (c := ?_) | refine L.indexR s2 hly (c := ?_) | refine L.loadF o1 (enc_at (enc := int) hx) (c := ?_) | refine L.loadF o2 (enc_at (enc := int) hy) (c := ?_))
      exact D.then_ fun a1 w1 hs => ⟨i + 1, ⟨by omega, take_eq_succ hx (by rw [hxy]; exact hy) ht⟩, by omega, hs.lessE rfl (lk_cons rfl (lk_cons rfl (lk_cons rfl (fun _ _ h => lk_nil h))))⟩
    · have c3 : cm .neq x z = true := cm_ne hxy
      repeat' (first | refine C.seq ?_ | refine C.region ?_ | refine L.nil ?_ | refine D.seq ?_ | refine L.move (k := ?_) | refine L.assign (k := ?_) | refine L.cm (c := ?_) | refine C.yes (h1 := ?_) | refine C.block ?_ | refine C.ret ?_ | refine D.thenRet ?_ | refine D.blkRet ?_ | refine C.skip ?_ | exact D.endsQ | refine QL.fin ?_ | refine C.quiet (h := ?_) | (refine QL.step (v := ?_) (by exact rfl) (by exact rfl) ?_ ?_; rotate_left) | refine L.lenR s1 (c := ?_) | refine L.lenR s2 (c := ?_) | refine L.indexR s1 hlt (c := ?_) | refine L.indexR s2 hly (c := ?_) | refine L.loadF o1 (enc_at (enc := int) hx) (c := ?_) | refine L.loadF o2 (enc_at (enc := int) hy) (c := ?_))
      (refine D.ret (vs := [_]) (RV.tmp rfl RV.nil) ?_; intro w' hw; exact Post.mk (is := []) hw List.nodup_nil rfl ⟨by rw [decide_eq_false (ne_of_at hx hy hxy)]; rfl, rfl⟩)
  · have c1 : cm .lss (i : Int) xs.length = false := cm_lo' (by omega)
    repeat' (first | refine C.seq ?_ | refine C.region ?_ | refine L.nil ?_ | refine D.seq ?_ | refine L.move (k := ?_) | refine L.assign (k := ?_) | refine L.cm (c := ?_) | refine C.no (h1 := ?_) | refine C.ret ?_ | refine C.exit ?_ | refine D.thenExit ?_ | refine D.blkExit ?_ | refine L.lenR s1 (c := ?_) | refine L.lenR s2 (c := ?_))
    rw [List.take_of_length_le hge, List.take_of_length_le (by omega)] at ht
    (refine D.ret (vs := [_]) (RV.tmp rfl RV.nil) ?_; intro w' hw; exact Post.mk (is := []) hw List.nodup_nil rfl ⟨by rw [decide_eq_true ht]; rfl, rfl⟩)

set_option maxHeartbeats 2000000 in
theorem sameE_S (v u : Value) (xs ys : List Ev) (hb : xs.length ≤ 1000000) : Ctr Try.prog 28 [v, u] []
    (fun w => Rd w [] v xs.length (xs.flatMap encE) ∧ Rd w [] u ys.length (ys.flatMap encE)) (is (.bool (decide (xs = ys))) []) := by
  refine Ctr.enter Try.func28 Try.ntmps28 rfl rfl (fun w hr => ?_)
  have s1 := hr.1.1
  have s2 := hr.2.1
  by_cases hl : xs.length ≠ ys.length
  · have c0 : cm .neq (xs.length : Int) ys.length = true := cm_ne (by omega)
    repeat' (first | refine C.seq ?_ | refine C.region ?_ | refine L.nil ?_ | refine D.seq ?_ | refine L.move (k := ?_) | refine L.assign (k := ?_) | refine L.cm (c := ?_) | refine C.yes (h1 := ?_) | refine C.ret ?_ | refine D.thenRet ?_ | refine L.lenR s1 (c := ?_) | refine L.lenR s2 (c := ?_))
    (refine D.ret (vs := [_]) (RV.tmp rfl RV.nil) ?_; intro w' hw; exact Post.mk (is := []) hw List.nodup_nil rfl ⟨by rw [decide_eq_false (fun e => hl (by rw [e]))]; rfl, rfl⟩)
  replace hl : xs.length = ys.length := by omega
  have c0 : cm .neq (xs.length : Int) ys.length = false := cm_ne' (by omega)
  repeat' (first | refine C.seq ?_ | refine C.region ?_ | refine L.nil ?_ | refine D.seq ?_ | refine L.move (k := ?_) | refine L.assign (k := ?_) | refine L.cm (c := ?_) | refine C.no (h1 := ?_) | refine C.block ?_ | refine C.skip ?_ | refine L.lenR s1 (c := ?_) | refine L.lenR s2 (c := ?_))
  refine C.loop (α := Nat) (fun i => i ≤ xs.length ∧ xs.take i = ys.take i) (fun i => [(0, v), (1, u), (5, .int .i64 i)]) (fun _ => []) (fun i => xs.length - i) 0
    (fun a w hs => hs.lessE rfl (lk_cons rfl (lk_cons rfl (lk_cons rfl (fun _ _ h => lk_nil h))))) ⟨Nat.zero_le _, rfl⟩ ?_
  rintro i ⟨hi, ht⟩
  rcases Nat.lt_or_ge i xs.length with hlt | hge
  · have c1 : cm .lss (i : Int) xs.length = true := cm_lo (by omega)
    obtain ⟨x, hx⟩ : ∃ x, xs[i]? = some x := ⟨_, List.getElem?_eq_getElem hlt⟩
    obtain ⟨z, hy⟩ : ∃ z, ys[i]? = some z := ⟨_, List.getElem?_eq_getElem (by omega)⟩
    have o1 := hr.1.2 (by omega)
    have o2 := hr.2.2 (by omega)
    have hly : i < ys.length := by omega
    have c2 : ar .add .i64 (i : Int) 1 = ((i + 1 : Nat) : Int) := wrap_nat (by omega)
    obtain ⟨ha1', hal1⟩ := flat_at encE_len hx
    have ha1 := ha1'.trans (encE_ex x)
    obtain ⟨ha2', hal2⟩ := flat_at encE_len hy
    have ha2 := ha2'.trans (encE_ex z)
    by_cases hxy : x = z
    · have c3 : eqK [.int .i64, .int .i64] [.int .i64 x.op, .int .i64 x.at_] [.int .i64 z.op, .int .i64 z.at_] = some true := by simp [eqK, eqL, hxy]
      repeat' (first | refine C.seq ?_ | refine C.region ?_ | refine L.nil ?_ | refine D.seq ?_ | refine L.move (k := ?_) | refine L.assign (k := ?_) | refine L.cm (c := ?_) | refine L.ar (c := ?_) | refine C.yes (h1 := ?_) | refine C.no (h1 := ?_) | refine C.block ?_ | refine D.blkNormal ?_ | refine C.skip ?_ | refine L.neA (c := ?_) | exact D.endsQ | refine QL.fin ?_ | refine C.quiet (h := ?_) | (refine QL.step (v := ?_) (by exact rfl) (by exact rfl) ?_ ?_; rotate_left) | refine L.lenR s1 (c := ?_) | refine L.lenR s2 (c := ?_) | refine L.indexR s1 hlt (c := ?_) | refine L.indexR s2 hly (c := ?_) | refine L.loadOA o1 (i := i * 2) (ho := rfl) (hi := hal1) (hcs := ha1) (c := ?_) | refine L.loadOA o2 (i := i * 2) (ho := rfl) (hi := hal2) (hcs := ha2) (c := ?_))
      exact D.then_ fun a1 w1 hs => ⟨i + 1, ⟨by omega, take_eq_succ hx (by rw [hxy]; exact hy) ht⟩, by omega, hs.lessE rfl (lk_cons rfl (lk_cons rfl (lk_cons rfl (fun _ _ h => lk_nil h))))⟩
    · have c3 : eqK [.int .i64, .int .i64] [.int .i64 x.op, .int .i64 x.at_] [.int .i64 z.op, .int .i64 z.at_] = some false := by
        have : ¬ (x.op = z.op ∧ x.at_ = z.at_) := fun ⟨h1, h2⟩ => hxy (by cases x; cases z; simp_all)
        simp [eqK, eqL]; grind
      repeat' (first | refine C.seq ?_ | refine C.region ?_ | refine L.nil ?_ | refine D.seq ?_ | refine L.move (k := ?_) | refine L.assign (k := ?_) | refine L.cm (c := ?_) | refine C.yes (h1 := ?_) | refine C.block ?_ | refine C.ret ?_ | refine D.thenRet ?_ | refine D.blkRet ?_ | refine C.skip ?_ | refine L.neA (c := ?_) | exact D.endsQ | refine QL.fin ?_ | refine C.quiet (h := ?_) | (refine QL.step (v := ?_) (by exact rfl) (by exact rfl) ?_ ?_; rotate_left) | refine L.lenR s1 (c := ?_) | refine L.lenR s2 (c := ?_) | refine L.indexR s1 hlt (c := ?_) | refine L.indexR s2 hly (c := ?_) | refine L.loadOA o1 (i := i * 2) (ho := rfl) (hi := hal1) (hcs := ha1) (c := ?_) | refine L.loadOA o2 (i := i * 2) (ho := rfl) (hi := hal2) (hcs := ha2) (c := ?_))
      (refine D.ret (vs := [_]) (RV.tmp rfl RV.nil) ?_; intro w' hw; exact Post.mk (is := []) hw List.nodup_nil rfl ⟨by rw [decide_eq_false (ne_of_at hx hy hxy)]; rfl, rfl⟩)
  · have c1 : cm .lss (i : Int) xs.length = false := cm_lo' (by omega)
    repeat' (first | refine C.seq ?_ | refine C.region ?_ | refine L.nil ?_ | refine D.seq ?_ | refine L.move (k := ?_) | refine L.assign (k := ?_) | refine L.cm (c := ?_) | refine C.no (h1 := ?_) | refine C.ret ?_ | refine C.exit ?_ | refine D.thenExit ?_ | refine D.blkExit ?_ | refine L.lenR s1 (c := ?_) | refine L.lenR s2 (c := ?_))
    rw [List.take_of_length_le hge, List.take_of_length_le (by omega)] at ht
    (refine D.ret (vs := [_]) (RV.tmp rfl RV.nil) ?_; intro w' hw; exact Post.mk (is := []) hw List.nodup_nil rfl ⟨by rw [decide_eq_true ht]; rfl, rfl⟩)

set_option maxHeartbeats 2000000 in
theorem equalU_S (v u : Value) (xs ys : List Int) (hb : xs.length ≤ 1000000) : Ctr Try.prog 62 [v, u] []
    (fun w => Rd w [] v xs.length (xs.map u64) ∧ Rd w [] u ys.length (ys.map u64)) (is (.bool (decide (xs = ys))) []) := by
  refine Ctr.enter Try.func62 Try.ntmps62 rfl rfl (fun w hr => ?_)
  have s1 := hr.1.1
  have s2 := hr.2.1
  by_cases hl : xs.length ≠ ys.length
  · have c0 : cm .neq (xs.length : Int) ys.length = true := cm_ne (by omega)
    repeat' (first | refine C.seq ?_ | refine C.region ?_ | refine L.nil ?_ | refine D.seq ?_ | refine L.move (k := ?_) | refine L.assign (k := ?_) | refine L.cm (c := ?_) | refine C.yes (h1 := ?_) | refine C.ret ?_ | refine D.thenRet ?_ | refine L.lenR s1 (c := ?_) | refine L.lenR s2 (c := ?_))
    (refine D.ret (vs := [_]) (RV.tmp rfl RV.nil) ?_; intro w' hw; exact Post.mk (is := []) hw List.nodup_nil rfl ⟨by rw [decide_eq_false (fun e => hl (by rw [e]))]; rfl, rfl⟩)
  replace hl : xs.length = ys.length := by omega
  have c0 : cm .neq (xs.length : Int) ys.length = false := cm_ne' (by omega)
  repeat' (first | refine C.seq ?_ | refine C.region ?_ | refine L.nil ?_ | refine D.seq ?_ | refine L.move (k := ?_) | refine L.assign (k := ?_) | refine L.cm (c := ?_) | refine C.no (h1 := ?_) | refine C.block ?_ | refine C.skip ?_ | refine L.lenR s1 (c := ?_) | refine L.lenR s2 (c := ?_))
  refine C.loop (α := Nat) (fun i => i ≤ xs.length ∧ xs.take i = ys.take i) (fun i => [(0, v), (1, u), (12, .int .i64 xs.length), (13, .int .i64 i)]) (fun _ => []) (fun i => xs.length - i) 0
    (fun a w hs => hs.lessE rfl (lk_cons rfl (lk_cons rfl (lk_cons rfl (lk_cons rfl (fun _ _ h => lk_nil h)))))) ⟨Nat.zero_le _, rfl⟩ ?_
  rintro i ⟨hi, ht⟩
  rcases Nat.lt_or_ge i xs.length with hlt | hge
  · have c1 : cm .lss (i : Int) xs.length = true := cm_lo (by omega)
    obtain ⟨x, hx⟩ : ∃ x, xs[i]? = some x := ⟨_, List.getElem?_eq_getElem hlt⟩
    obtain ⟨z, hy⟩ : ∃ z, ys[i]? = some z := ⟨_, List.getElem?_eq_getElem (by omega)⟩
    have o1 := hr.1.2 (by omega)
    have o2 := hr.2.2 (by omega)
    have hly : i < ys.length := by omega
    have c2 : ar .add .i64 (i : Int) 1 = ((i + 1 : Nat) : Int) := wrap_nat (by omega)
    by_cases hxy : x = z
    · have c3 : cm .neq x z = false := cm_ne' hxy
      repeat' (first | refine C.seq ?_ | refine C.region ?_ | refine L.nil ?_ | refine D.seq ?_ | refine L.move (k := ?_) | refine L.assign (k := ?_) | refine L.cm (c := ?_) | refine L.ar (c := ?_) | refine C.yes (h1 := ?_) | refine C.no (h1 := ?_) | refine C.block ?_ | refine D.blkNormal ?_ | refine C.skip ?_ | exact D.endsQ | refine QL.fin ?_ | refine C.quiet (h := ?_) | (refine QL.step (v := ?_) (by exact rfl) (by exact rfl) ?_ ?_; rotate_left) | refine L.lenR s1 (c := ?_) | refine L.lenR s2 (c := ?_) | refine L.indexR s1 hlt (c := ?_) | refine L.indexR s2 hly (c := ?_) | refine L.loadF o1 (enc_at (enc := u64) hx) (c := ?_) | refine L.loadF o2 (enc_at (enc := u64) hy) (c := ?_))
      exact D.then_ fun a1 w1 hs => ⟨i + 1, ⟨by omega, take_eq_succ hx (by rw [hxy]; exact hy) ht⟩, by omega, hs.lessE rfl (lk_cons rfl (lk_cons rfl (lk_cons rfl (lk_cons rfl (fun _ _ h => lk_nil h)))))⟩
    · have c3 : cm .neq x z = true := cm_ne hxy
      repeat' (first | refine C.seq ?_ | refine C.region ?_ | refine L.nil ?_ | refine D.seq ?_ | refine L.move (k := ?_) | refine L.assign (k := ?_) | refine L.cm (c := ?_) | refine C.yes (h1 := ?_) | refine C.block ?_ | refine C.ret ?_ | refine D.thenRet ?_ | refine D.blkRet ?_ | refine C.skip ?_ | exact D.endsQ | refine QL.fin ?_ | refine C.quiet (h := ?_) | (refine QL.step (v := ?_) (by exact rfl) (by exact rfl) ?_ ?_; rotate_left) | refine L.lenR s1 (c := ?_) | refine L.lenR s2 (c := ?_) | refine L.indexR s1 hlt (c := ?_) | refine L.indexR s2 hly (c := ?_) | refine L.loadF o1 (enc_at (enc := u64) hx) (c := ?_) | refine L.loadF o2 (enc_at (enc := u64) hy) (c := ?_))
      (refine D.ret (vs := [_]) (RV.tmp rfl RV.nil) ?_; intro w' hw; exact Post.mk (is := []) hw List.nodup_nil rfl ⟨by rw [decide_eq_false (ne_of_at hx hy hxy)]; rfl, rfl⟩)
  · have c1 : cm .lss (i : Int) xs.length = false := cm_lo' (by omega)
    repeat' (first | refine C.seq ?_ | refine C.region ?_ | refine L.nil ?_ | refine D.seq ?_ | refine L.assign (k := ?_) | refine L.cm (c := ?_) | refine C.no (h1 := ?_) | refine C.ret ?_ | refine C.exit ?_ | refine D.thenExit ?_ | refine D.blkExit ?_ | refine L.lenR s1 (c := ?_) | refine L.lenR s2 (c := ?_))
    rw [List.take_of_length_le hge, List.take_of_length_le (by omega)] at ht
    (refine D.ret (vs := [_]) (RV.tmp rfl RV.nil) ?_; intro w' hw; exact Post.mk (is := []) hw List.nodup_nil rfl ⟨by rw [decide_eq_true ht]; rfl, rfl⟩)
end Go.Proofs.Ytkjlgapkcdcmgaa
