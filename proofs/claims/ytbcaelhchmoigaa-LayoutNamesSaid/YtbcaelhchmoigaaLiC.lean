/- keysmithlaw10's checks; Same of numbers, of lines (where they are the same). LayoutNames: the walk. -/
import Derived.Test.YtbcaelhchmoigaaLiB
set_option linter.unusedVariables false
set_option linter.unusedSimpArgs false
namespace Go.Proofs.Ytbcaelhchmoigaa.Ly
open Go Go.RowKit Calm SL
attribute [local irreducible] SL.L SL.C SL.D SL.N SL.H SL.QL SL.QW SL.QP

theorem checks_S (l : List Ln) (hl : l.length ≤ 1000) (hok : ∀ x ∈ l, x.ok) (v : Value) (k e : Int) (h : ((lcheck l).1 : Int) = k ∧ (lcheck l).2 = e) : Ctr Try.prog 18 [.int .i64 k, .int .i64 e, v] [] (fun w => Rd w [] v l.length (l.flatMap Ln.vs)) (is (.bool true) []) := by
  refine Ctr.enter Try.func18 Try.ntmps18 rfl rfl (fun w hr => ?_)
  have hC := lcheck_S l hl hok v
  have c1 : cm .eql ((lcheck l).1 : Int) k = true := cm_yes h.1
  have c2 : cm .eql (lcheck l).2 e = true := cm_yes h.2
  generalize (lcheck l).1 = a at hC c1
  generalize (lcheck l).2 = b at hC c2
  repeat (first | refine C.seq ?_ | refine C.region ?_ | refine L.nil ?_ | refine D.seq ?_ | refine L.move (k := ?_) | refine L.assign (k := ?_) | refine L.cm (c := ?_) | refine L.extract (c := ?_) | refine L.pickT (k := ?_) | refine L.want (k := ?_) | refine C.ret ?_ | refine L.callQ hC (hpre := fun w hw => hr.at hw) (k := ?_))
  (refine D.ret (vs := [_]) (RV.tmp rfl RV.nil) ?_; intro w' hw; exact Post.mk (is := []) hw List.nodup_nil rfl ⟨rfl, rfl⟩)
set_option maxRecDepth 100000 in
theorem sameI_S (ns : List Nat) (hn : ns.length ≤ 1000000) (v u : Value) : Ctr Try.prog 19 [v, u] [] (fun w => Rd w [] v ns.length (nums ns) ∧ Rd w [] u ns.length (nums ns)) (is (.bool true) []) := by
  refine Ctr.enter Try.func19 Try.ntmps19 rfl rfl (fun w hr => ?_)
  obtain ⟨r1, r2⟩ := hr
  have s1 := r1.1
  have s2 := r2.1
  have c0 : cm .neq (ns.length : Int) ns.length = false := cm_ne' rfl
  repeat (first | refine C.seq ?_ | refine C.region ?_ | refine L.nil ?_ | refine D.seq ?_ | refine L.move (k := ?_) | refine L.assign (k := ?_) | refine L.cm (c := ?_) | refine C.no (h1 := ?_) | refine C.block ?_ | refine C.skip ?_ | refine L.lenR s1 (c := ?_) | refine L.lenR s2 (c := ?_))
  refine C.loop (α := Nat) (fun i => i ≤ ns.length) (fun i => [(0, v), (1, u), (5, .int .i64 (i : Int))]) (fun _ => []) (fun i => ns.length - i) 0 (fun a w hs => hs.lessE rfl (lk_cons rfl (lk_cons rfl (lk_cons rfl (fun _ _ h => lk_nil h))))) (Nat.zero_le _) ?_
  intro i hi
  rcases Nat.lt_or_ge i ns.length with hlt | hge
  · have c1 : cm .lss (i : Int) ns.length = true := cm_lo (by omega)
    have c2 : ar .add .i64 (i : Int) 1 = ((i + 1 : Nat) : Int) := wrap_nat (by omega)
    obtain ⟨x, hx⟩ : ∃ x, ns[i]? = some x := ⟨_, List.getElem?_eq_getElem hlt⟩
    have k1 := nums_get hx
    have o1 := r1.2 (by omega)
    have o2 := r2.2 (by omega)
    have c3 : cm .neq (x : Int) x = false := cm_ne' rfl
    repeat' (first | refine C.seq ?_ | refine C.region ?_ | refine L.nil ?_ | refine D.seq ?_ | refine L.move (k := ?_) | refine L.assign (k := ?_) | refine L.cm (c := ?_) | refine L.ar (c := ?_) | refine C.yes (h1 := ?_) | refine C.no (h1 := ?_) | refine C.block ?_ | refine D.blkNormal ?_ | refine C.skip ?_ | exact D.endsQ | refine QL.fin ?_ | refine C.quiet (h := ?_) | (refine QL.step (v := ?_) (by exact rfl) (by exact rfl) ?_ ?_; rotate_left) | refine L.lenR s1 (c := ?_) | refine L.indexR s1 hlt (c := ?_) | refine L.indexR s2 hlt (c := ?_) | refine L.loadF o1 k1 (c := ?_) | refine L.loadF o2 k1 (c := ?_))
    exact D.then_ fun a1 w1 hs => ⟨i + 1, hlt, by omega, hs.lessE rfl (lk_cons rfl (lk_cons rfl (lk_cons rfl (fun _ _ h => lk_nil h))))⟩
  · have c1 : cm .lss (i : Int) ns.length = false := cm_lo' (by omega)
    repeat (first | refine C.seq ?_ | refine C.region ?_ | refine L.nil ?_ | refine D.seq ?_ | refine L.move (k := ?_) | refine L.assign (k := ?_) | refine L.cm (c := ?_) | refine C.no (h1 := ?_) | refine C.ret ?_ | refine C.exit ?_ | refine D.thenExit ?_ | refine D.blkExit ?_ | refine L.lenR s1 (c := ?_))
    (refine D.ret (vs := [_]) (RV.tmp rfl RV.nil) ?_; intro w' hw; exact Post.mk (is := []) hw List.nodup_nil rfl ⟨rfl, rfl⟩)
theorem eqK_line (x : Ln) : eqK [.int .i64, .int .i64, .int .i64, .int .i64, .int .i64, .int .i64, .int .i64, .int .i64, .int .i64, .int .i64, .int .i64] (Ln.vs x) (Ln.vs x) = some true := by
  simp [eqK, eqL, Ln.vs]
set_option maxRecDepth 100000 in
theorem sameL_S (l : List Ln) (hn : l.length ≤ 1000000) (v u : Value) : Ctr Try.prog 20 [v, u] [] (fun w => Rd w [] v l.length (l.flatMap Ln.vs) ∧ Rd w [] u l.length (l.flatMap Ln.vs)) (is (.bool true) []) := by
  refine Ctr.enter Try.func20 Try.ntmps20 rfl rfl (fun w hr => ?_)
  obtain ⟨r1, r2⟩ := hr
  have s1 := r1.1
  have s2 := r2.1
  have c0 : cm .neq (l.length : Int) l.length = false := cm_ne' rfl
  repeat (first | refine C.seq ?_ | refine C.region ?_ | refine L.nil ?_ | refine D.seq ?_ | refine L.move (k := ?_) | refine L.assign (k := ?_) | refine L.cm (c := ?_) | refine C.no (h1 := ?_) | refine C.block ?_ | refine C.skip ?_ | refine L.lenR s1 (c := ?_) | refine L.lenR s2 (c := ?_))
  refine C.loop (α := Nat) (fun i => i ≤ l.length) (fun i => [(0, v), (1, u), (5, .int .i64 (i : Int))]) (fun _ => []) (fun i => l.length - i) 0 (fun a w hs => hs.lessE rfl (lk_cons rfl (lk_cons rfl (lk_cons rfl (fun _ _ h => lk_nil h))))) (Nat.zero_le _) ?_
  intro i hi
  rcases Nat.lt_or_ge i l.length with hlt | hge
  · have c1 : cm .lss (i : Int) l.length = true := cm_lo (by omega)
    have c2 : ar .add .i64 (i : Int) 1 = ((i + 1 : Nat) : Int) := wrap_nat (by omega)
    obtain ⟨x, hx⟩ : ∃ x, l[i]? = some x := ⟨_, List.getElem?_eq_getElem hlt⟩
    obtain ⟨kc, kl⟩ := ln_at hx
    have o1 := r1.2 (by omega)
    have o2 := r2.2 (by omega)
    have hq := eqK_line x
    repeat' (first | refine L.neA (b := true) (he := by exact hq) (c := ?_) | refine C.seq ?_ | refine C.region ?_ | refine L.nil ?_ | refine D.seq ?_ | refine L.move (k := ?_) | refine L.assign (k := ?_) | refine L.cm (c := ?_) | refine L.ar (c := ?_) | refine C.yes (h1 := ?_) | refine C.no (h1 := ?_) | refine C.block ?_ | refine D.blkNormal ?_ | refine C.skip ?_ | exact D.endsQ | refine QL.fin ?_ | refine C.quiet (h := ?_) | (refine QL.step (v := ?_) (by exact rfl) (by exact rfl) ?_ ?_; rotate_left) | refine L.lenR s1 (c := ?_) | refine L.indexR s1 hlt (c := ?_) | refine L.indexR s2 hlt (c := ?_) | refine L.loadOA o1 (i := i * 11) (ho := by exact rfl) (hi := kl) (hcs := kc) (c := ?_) | refine L.loadOA o2 (i := i * 11) (ho := by exact rfl) (hi := kl) (hcs := kc) (c := ?_))
    exact D.then_ fun a1 w1 hs => ⟨i + 1, hlt, by omega, hs.lessE rfl (lk_cons rfl (lk_cons rfl (lk_cons rfl (fun _ _ h => lk_nil h))))⟩
  · have c1 : cm .lss (i : Int) l.length = false := cm_lo' (by omega)
    repeat (first | refine C.seq ?_ | refine C.region ?_ | refine L.nil ?_ | refine D.seq ?_ | refine L.move (k := ?_) | refine L.assign (k := ?_) | refine L.cm (c := ?_) | refine C.no (h1 := ?_) | refine C.ret ?_ | refine C.exit ?_ | refine D.thenExit ?_ | refine D.blkExit ?_ | refine L.lenR s1 (c := ?_))
    (refine D.ret (vs := [_]) (RV.tmp rfl RV.nil) ?_; intro w' hw; exact Post.mk (is := []) hw List.nodup_nil rfl ⟨rfl, rfl⟩)
/-! ### The chapter's example -/
theorem rows_step {l : List Int} {a n : Nat} {x : Ins} {r : List Int} (h0 : l ≠ []) (h : rdD l = (x, n + 1, 0)) (hr : l.drop (n + 1) = r) : rows l a = (a, x) :: rows r (a + (n + 1)) := by
  rw [rows, dif_pos ⟨h0, by rw [h]; exact Nat.succ_pos n, by rw [h]⟩, h, hr]
theorem rows_stop {l : List Int} {a : Nat} (h : l = [] ∨ (rdD l).2.2 ≠ 0) : rows l a = [] := by
  rw [rows, dif_neg (fun hc => h.elim hc.1 (fun h => h hc.2.2))]
def retN : Ln := ⟨0, ⟨33, 0, 0, 0, 0, 0, 0, 0, 0⟩, 0⟩
def jnzN : Ln := ⟨0, ⟨31, 0, 0, 0, 0, 0, 0, 0, 0⟩, 2⟩
def jmpI (n : Int) : Ins := ⟨30, 0, 0, 0, 0, 0, 0, 0, n⟩
theorem rows_1 : rows (bytesOf ⟨#[233, 1, 0, 0, 0, 195]⟩) 0 = [(0, jmpI 1), (5, retN.ins)] := by
  rw [show bytesOf ⟨#[233, 1, 0, 0, 0, 195]⟩ = [233, 1, 0, 0, 0, 195] by kernel_rfl, rows_step (x := jmpI 1) (n := 4) (by simp) (by kernel_rfl) rfl, rows_step (x := retN.ins) (n := 0) (by simp) (by kernel_rfl) rfl]
  exact congrArg (fun z => [(0, jmpI 1), (5, retN.ins)] ++ z) (rows_stop (.inl rfl))
theorem rows_2 : rows (bytesOf ⟨#[233, 2, 0, 0, 0, 195]⟩) 0 = [(0, jmpI 2), (5, retN.ins)] := by
  rw [show bytesOf ⟨#[233, 2, 0, 0, 0, 195]⟩ = [233, 2, 0, 0, 0, 195] by kernel_rfl, rows_step (x := jmpI 2) (n := 4) (by simp) (by kernel_rfl) rfl, rows_step (x := retN.ins) (n := 0) (by simp) (by kernel_rfl) rfl]
  exact congrArg (fun z => [(0, jmpI 2), (5, retN.ins)] ++ z) (rows_stop (.inl rfl))
theorem rows_3 : rows (bytesOf ⟨#[0]⟩) 0 = [] := rows_stop (.inr (by rw [show rdD (bytesOf ⟨#[0]⟩) = (zeroI, 0, 4) by kernel_rfl]; decide))
def ex3 : List Ln := [⟨0, ⟨30, 0, 0, 0, 0, 0, 0, 0, 0⟩, 1⟩, retN, lbl 1]
theorem lin_1 : linesM [(0, jmpI 1), (5, retN.ins)] 6 0 = (ex3, 0) := by kernel_rfl
theorem lin_2 : linesM [(0, jmpI 2), (5, retN.ins)] 6 0 = ([], 4) := by kernel_rfl
end Go.Proofs.Ytbcaelhchmoigaa.Ly
