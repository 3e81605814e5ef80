/- keysmithkit.Same of instructions, of slices that are told by what they hold; slices of two tongues. -/
import Derived.Test.YtakmpnmmcjnecaaRcI
import Derived.Test.YtakmpnmmcjnecaaDEqK
set_option linter.unusedVariables false
set_option linter.unusedSimpArgs false
namespace Go.Proofs.Ytakmpnmmcjnecaa
open Go.RowKit Calm SL
attribute [local irreducible] SL.L SL.C SL.D SL.N SL.H

theorem len9 (xs : List Ins) : (xs.flatMap cells9).length = xs.length * 9 := by
  induction xs with
  | nil => rfl
  | cons x xs ih => rw [List.flatMap_cons, List.length_append, ih]; simp [cells9]; omega
theorem flat9_at {xs : List Ins} {i : Nat} {x : Ins} (hx : xs[i]? = some x) : ((xs.flatMap cells9).drop (i * 9)).take 9 = cells9 x ∧ i * 9 + 9 ≤ (xs.flatMap cells9).length := by
  have hi : i < xs.length := (List.getElem?_eq_some_iff.1 hx).1
  exact ⟨own_cells (List.take_of_length_le (by rw [len9]; exact Nat.le_refl _)) hx, by rw [len9]; omega⟩
theorem sliceG_os {xs : List Ins} {y : OS} (h : sliceG 9 cells9 xs y) : osG 9 xs.length (xs.flatMap cells9) y := by
  rcases y with _ | ⟨b, l, cap⟩
  · obtain rfl : xs = [] := h; exact ⟨rfl, rfl⟩
  · exact h
theorem sliceV_os {xs : List Ins} {y : OS} (h : sliceG 9 cells9 xs y) : sliceV xs y = osV xs.length y := by
  rcases y with _ | ⟨b, l, cap⟩ <;> rfl
theorem sliceM_os (T : Nat) (y : OS) : sliceM T y = osC T y [] := by rcases y with _ | ⟨b, l, cap⟩ <;> rfl
set_option maxHeartbeats 2000000 in
theorem sameR_S (v u : Value) (xs : List Ins) (hb : xs.length ≤ 1000000) : Ctr Try.prog 32 [v, u] []
    (fun w => Rd w [] v xs.length (xs.flatMap cells9) ∧ Rd w [] u xs.length (xs.flatMap cells9)) (is (.bool true) []) := by
  refine Ctr.enter Try.func32 Try.ntmps32 rfl rfl (fun w hr => ?_)
  have s1 := hr.1.1
  have s2 := hr.2.1
  have c0 : cm .neq (xs.length : Int) xs.length = false := by show ((xs.length : Int) != xs.length) = false; simp
  repeat' (first | refine C.seq ?_ | refine C.region ?_ | refine L.nil ?_ | refine D.seq ?_ | refine L.move (k := ?_) | refine L.assign (k := ?_) | refine L.cm (c := ?_) | refine C.no (h1 := ?_) | refine C.block ?_ | refine C.skip ?_ | refine L.lenR s1 (c := ?_) | refine L.lenR s2 (c := ?_))
  refine C.loop (α := Nat) (fun i => i ≤ xs.length) (fun i => [(0, v), (1, u), (5, .int .i64 i)]) (fun _ => []) (fun i => xs.length - i) 0
    (fun a w hs => hs.lessE rfl (lk_cons rfl (lk_cons rfl (lk_cons rfl (fun _ _ h => lk_nil h))))) (Nat.zero_le _) ?_
  intro i hi
  rcases Nat.lt_or_ge i xs.length with hlt | hge
  · have c1 : cm .lss (i : Int) xs.length = true := cm_lo (by omega)
    obtain ⟨x, hx⟩ : ∃ x, xs[i]? = some x := ⟨_, List.getElem?_eq_getElem hlt⟩
    have o1 := hr.1.2 (by omega)
    have o2 := hr.2.2 (by omega)
    have c2 : ar .add .i64 (i : Int) 1 = ((i + 1 : Nat) : Int) := wrap_nat (by omega)
    obtain ⟨ha, hal⟩ := flat9_at hx
    have c3 := eqK_inst x
    repeat' (first | refine C.seq ?_ | refine C.region ?_ | refine L.nil ?_ | refine D.seq ?_ | refine L.move (k := ?_) | refine L.assign (k := ?_) | refine L.cm (c := ?_) | refine L.ar (c := ?_) | refine C.yes (h1 := ?_) | refine C.no (h1 := ?_) | refine C.block ?_ | refine D.blkNormal ?_ | refine C.skip ?_ | refine L.neA (c := ?_) | exact D.endsQ | refine C.quiet (h := ?_) | (refine QL.step (v := ?_) (by exact rfl) (by exact rfl) ?_ ?_; rotate_left) | refine L.lenR s1 (c := ?_) | refine L.lenR s2 (c := ?_) | refine L.indexR s1 hlt (c := ?_) | refine L.indexR s2 hlt (c := ?_) | refine L.loadOA o1 (i := i * 9) (ho := rfl) (hi := hal) (hcs := ha) (c := ?_) | refine L.loadOA o2 (i := i * 9) (ho := rfl) (hi := hal) (hcs := ha) (c := ?_))
    exact D.then_ fun a1 w1 hs => ⟨i + 1, by omega, by omega, hs.lessE rfl (lk_cons rfl (lk_cons rfl (lk_cons rfl (fun _ _ h => lk_nil h))))⟩
  · have c1 : cm .lss (i : Int) xs.length = false := cm_lo' (by omega)
    repeat' (first | refine C.seq ?_ | refine C.region ?_ | refine L.nil ?_ | refine D.seq ?_ | refine L.move (k := ?_) | refine L.assign (k := ?_) | refine L.cm (c := ?_) | refine C.no (h1 := ?_) | refine C.ret ?_ | refine C.exit ?_ | refine D.thenExit ?_ | refine D.blkExit ?_ | refine L.lenR s1 (c := ?_) | refine L.lenR s2 (c := ?_))
    (refine D.ret (vs := [_]) (RV.tmp rfl RV.nil) ?_; intro w' hw; exact Post.mk (is := []) hw List.nodup_nil rfl ⟨rfl, rfl⟩)
end Go.Proofs.Ytakmpnmmcjnecaa
