import Derived.Test.YtbcaelhchmoigaaLcC
import Derived.Test.YtbcaelhchmoigaaLiB
set_option maxRecDepth 100000
set_option linter.unusedVariables false
set_option linter.unusedSimpArgs false
namespace Go.Proofs.Ytbcaelhchmoigaa.Ly
open Go Go.RowKit Calm SL
attribute [local irreducible] SL.L SL.C SL.D SL.N SL.H SL.QL SL.QW SL.QP
theorem sameI_S (ns : List Nat) (hn : ns.length ≤ 1000000) (v u : Value) : Ctr Try.prog 19 [v, u] [] (fun w => Rd w [] v ns.length (nums ns) ∧ Rd w [] u ns.length (nums ns)) (is (.bool true) []) := by
  refine Ctr.enter Try.func19 Try.ntmps19 rfl rfl (fun w hr => ?_)
  obtain ⟨r1, r2⟩ := hr
  have s1 := r1.1
  have s2 := r2.1
  have c0 : cm .neq (ns.length : Int) ns.length = false := cm_ne' rfl
  repeat (first | refine Af ?_ | refine Ac ?_ | refine Aa ?_ | refine Ae ?_ | refine Ad ?_ | refine Ag ?_ | refine Ah ?_ | refine Aj ?_ | refine Ai ?_ | refine Ap ?_ | refine Az s1 ?_ | refine Az s2 ?_)
  refine C.loop (α := Nat) (fun i => i ≤ ns.length) (fun i => [(0, v), (1, u), (5, .int .i64 (i : Int))]) (fun _ => []) (fun i => ns.length - i) 0 (fun a w hs => hs.lessE rfl (lk_cons rfl (lk_cons rfl (lk_cons rfl (fun _ _ h => lk_nil h))))) (Nat.zero_le _) ?_
  intro i hi
  rcases Nat.lt_or_ge i ns.length with hlt | hge
  · have c1 : cm .lss (i : Int) ns.length = true := cm_lo (by omega)
    have c2 : ar .add .i64 (i : Int) 1 = ((i + 1 : Nat) : Int) := wrap_nat (by omega)
    obtain ⟨x, hx⟩ : ∃ x, ns[i]? = some x := ⟨_, List.getElem?_eq_getElem hlt⟩
    have k1 := nums_get hx
    have o1 := r1.2 (by omega)
    have o2 := r2.2 (by omega)
    have c3 : cm .neq (x : Int) x = false := cm_ne' rfl
    repeat' (first | refine Af ?_ | refine Ac ?_ | refine Aa ?_ | refine Ae ?_ | refine Ad ?_ | refine Ag ?_ | refine Ah ?_ | refine Ao ?_ | refine Am ?_ | refine Aj ?_ | refine Ai ?_ | refine Ar ?_ | refine Ap ?_ | exact D.endsQ | refine QL.fin ?_ | refine C.quiet (h := ?_) | (refine QL.step (v := ?_) (by exact rfl) (by exact rfl) ?_ ?_; rotate_left) | refine Az s1 ?_ | refine Ba s1 hlt ?_ | refine Ba s2 hlt ?_ | refine L.loadF o1 k1 (c := ?_) | refine L.loadF o2 k1 (c := ?_))
    exact D.then_ fun a1 w1 hs => ⟨i + 1, hlt, by omega, hs.lessE rfl (lk_cons rfl (lk_cons rfl (lk_cons rfl (fun _ _ h => lk_nil h))))⟩
  · have c1 : cm .lss (i : Int) ns.length = false := cm_lo' (by omega)
    repeat (first | refine Af ?_ | refine Ac ?_ | refine Aa ?_ | refine Ae ?_ | refine Ad ?_ | refine Ag ?_ | refine Ah ?_ | refine Aj ?_ | refine An ?_ | refine C.exit ?_ | refine Bg ?_ | refine Bh ?_ | refine Az s1 ?_)
    (refine D.ret (vs := [_]) (RV.tmp rfl RV.nil) ?_; intro w' hw; exact Post.mk (is := []) hw List.nodup_nil rfl ⟨rfl, rfl⟩)
theorem eqK_line (x : Ln) : eqK [.int .i64, .int .i64, .int .i64, .int .i64, .int .i64, .int .i64, .int .i64, .int .i64, .int .i64, .int .i64, .int .i64] (Ln.vs x) (Ln.vs x) = some true := by
  simp [eqK, eqL, Ln.vs]
theorem sameL_S (l : List Ln) (hn : l.length ≤ 1000000) (v u : Value) : Ctr Try.prog 20 [v, u] [] (fun w => Rd w [] v l.length (l.flatMap Ln.vs) ∧ Rd w [] u l.length (l.flatMap Ln.vs)) (is (.bool true) []) := by
  refine Ctr.enter Try.func20 Try.ntmps20 rfl rfl (fun w hr => ?_)
  obtain ⟨r1, r2⟩ := hr
  have s1 := r1.1
  have s2 := r2.1
  have c0 : cm .neq (l.length : Int) l.length = false := cm_ne' rfl
  repeat (first | refine Af ?_ | refine Ac ?_ | refine Aa ?_ | refine Ae ?_ | refine Ad ?_ | refine Ag ?_ | refine Ah ?_ | refine Aj ?_ | refine Ai ?_ | refine Ap ?_ | refine Az s1 ?_ | refine Az s2 ?_)
  refine C.loop (α := Nat) (fun i => i ≤ l.length) (fun i => [(0, v), (1, u), (5, .int .i64 (i : Int))]) (fun _ => []) (fun i => l.length - i) 0 (fun a w hs => hs.lessE rfl (lk_cons rfl (lk_cons rfl (lk_cons rfl (fun _ _ h => lk_nil h))))) (Nat.zero_le _) ?_
  intro i hi
  rcases Nat.lt_or_ge i l.length with hlt | hge
  · have c1 : cm .lss (i : Int) l.length = true := cm_lo (by omega)
    have c2 : ar .add .i64 (i : Int) 1 = ((i + 1 : Nat) : Int) := wrap_nat (by omega)
    obtain ⟨x, hx⟩ : ∃ x, l[i]? = some x := ⟨_, List.getElem?_eq_getElem hlt⟩
    obtain ⟨kc, kl⟩ := ln_at hx
    have o1 := r1.2 (by omega)
    have o2 := r2.2 (by omega)
    have hq := eqK_line x
    repeat' (first | refine L.neA (b := true) (he := by exact hq) (c := ?_) | refine Af ?_ | refine Ac ?_ | refine Aa ?_ | refine Ae ?_ | refine Ad ?_ | refine Ag ?_ | refine Ah ?_ | refine Ao ?_ | refine Am ?_ | refine Aj ?_ | refine Ai ?_ | refine Ar ?_ | refine Ap ?_ | exact D.endsQ | refine QL.fin ?_ | refine C.quiet (h := ?_) | (refine QL.step (v := ?_) (by exact rfl) (by exact rfl) ?_ ?_; rotate_left) | refine Az s1 ?_ | refine Ba s1 hlt ?_ | refine Ba s2 hlt ?_ | refine L.loadOA o1 (i := i * 11) (ho := by exact rfl) (hi := kl) (hcs := kc) (c := ?_) | refine L.loadOA o2 (i := i * 11) (ho := by exact rfl) (hi := kl) (hcs := kc) (c := ?_))
    exact D.then_ fun a1 w1 hs => ⟨i + 1, hlt, by omega, hs.lessE rfl (lk_cons rfl (lk_cons rfl (lk_cons rfl (fun _ _ h => lk_nil h))))⟩
  · have c1 : cm .lss (i : Int) l.length = false := cm_lo' (by omega)
    repeat (first | refine Af ?_ | refine Ac ?_ | refine Aa ?_ | refine Ae ?_ | refine Ad ?_ | refine Ag ?_ | refine Ah ?_ | refine Aj ?_ | refine An ?_ | refine C.exit ?_ | refine Bg ?_ | refine Bh ?_ | refine Az s1 ?_)
    (refine D.ret (vs := [_]) (RV.tmp rfl RV.nil) ?_; intro w' hw; exact Post.mk (is := []) hw List.nodup_nil rfl ⟨rfl, rfl⟩)
def retN : Ln := ⟨0, ⟨33, 0, 0, 0, 0, 0, 0, 0, 0⟩, 0⟩
def jnzN : Ln := ⟨0, ⟨31, 0, 0, 0, 0, 0, 0, 0, 0⟩, 2⟩
def jmpI (n : Int) : Ins := ⟨30, 0, 0, 0, 0, 0, 0, 0, n⟩
def ex3 : List Ln := [⟨0, ⟨30, 0, 0, 0, 0, 0, 0, 0, 0⟩, 1⟩, retN, lbl 1]
end Go.Proofs.Ytbcaelhchmoigaa.Ly
set_option linter.unusedVariables false
set_option linter.unusedSimpArgs false
namespace Go.Proofs.Ytbcaelhchmoigaa.Ly
open Go Go.RowKit Calm SL
attribute [local irreducible] SL.L SL.C SL.D SL.N SL.H SL.QL SL.QW SL.QP
theorem linesM_len (R : List (Nat × Ins)) (len : Nat) (e : Int) : (linesM R len e).1.length ≤ 2 * R.length + 1 := by
  unfold linesM
  split
  · exact Nat.zero_le _
  · split
    · show (lsOf R R ++ lab1 R (len : Int)).length ≤ _
      have h2 := lsOf_len R R
      have h3 := lab1_len R (len : Int)
      rw [List.length_append]; omega
    · exact Nat.zero_le _
set_option maxRecDepth 100000 in
set_option maxHeartbeats 16000000 in
theorem lcalls_S (l : List Ln) (hm : l.length ≤ maxLen) (hok : ∀ x ∈ l, x.ok) (v : Value) (code : ByteArray) : Ctr Try.prog 7 [v, .string code] [] (fun w => Rd w [] v l.length (l.flatMap Ln.vs)) (is (.bool true) []) := by
  refine Ctr.enter Try.func7 Try.ntmps7 rfl rfl (fun w hr => ?_)
  have sv := hr.1
  by_cases h60 : 60 < l.length
  · have c0 : cm .gtr (l.length : Int) 60 = true := cm_gt (by omega)
    repeat (first | refine Af ?_ | refine Ac ?_ | refine Aa ?_ | refine Ae ?_ | refine Ad ?_ | refine Ag ?_ | refine Ah ?_ | refine Am ?_ | refine Aj ?_ | refine Be ?_ | refine Bf ?_ | refine L.not (c := ?_) | refine An ?_ | refine Av ?_ | refine Ap ?_ | refine Az sv ?_ | refine Au (lives_S) ?_)
    (refine D.ret (vs := [_]) (RV.tmp rfl RV.nil) ?_; intro w' hw; exact Post.mk (is := []) hw List.nodup_nil rfl ⟨rfl, rfl⟩)
  have c0 : cm .gtr (l.length : Int) 60 = false := cm_gt' (by omega)
  by_cases h200 : 200 < code.size
  · have c1 : cm .gtr (code.size : Int) 200 = true := cm_gt (by omega)
    repeat (first | refine Af ?_ | refine Ac ?_ | refine Aa ?_ | refine Ae ?_ | refine Ad ?_ | refine Ag ?_ | refine Ah ?_ | refine Am ?_ | refine Aj ?_ | refine Ax ?_ | refine Aw ?_ | refine L.not (c := ?_) | refine L.lenS (c := ?_) | refine An ?_ | refine Av ?_ | refine Ap ?_ | refine Az sv ?_ | refine Au (lives_S) ?_)
    (refine D.ret (vs := [_]) (RV.tmp rfl RV.nil) ?_; intro w' hw; exact Post.mk (is := []) hw List.nodup_nil rfl ⟨rfl, rfl⟩)
  have c1 : cm .gtr (code.size : Int) 200 = false := cm_gt' (by omega)
  have h1000 : l.length ≤ 1000 := by omega
  have hC := lcheck_S l h1000 hok v
  have hC' := rcheck_S l h1000 hok v
  have hP := places_S l h1000 hok v
  have hP' := rplaces_S l h1000 hok v
  have hB := lbytes_S l h1000 hok v
  have hB' := rbytes_S l h1000 hok v
  have hL := lines_S code (by omega) _ _ rfl rfl
  have hL' := rlines_S code (by omega) _ _ rfl rfl
  have hI := fun a b => sameI_S (plc l) (by
    have : (plc l).length ≤ l.length := by
      unfold plc; split
      · rw [places_len]; exact Nat.le_refl _
      · exact Nat.zero_le _
    omega) a b
  obtain ⟨X, hX⟩ : ∃ X, linesM (rows (bytesOf code) 0) code.size (if endOf (rows (bytesOf code) 0) < code.size then (rdD ((bytesOf code).drop (endOf (rows (bytesOf code) 0)))).2.2 else 0) = X := ⟨_, rfl⟩
  rw [hX] at hL hL'
  have hXl : X.1.length ≤ 1000000 := by
    rw [← hX]
    have hRl := rows_length (bytesOf code) 0
    rw [bytesOf_length] at hRl
    refine Nat.le_trans (linesM_len _ _ _) ?_
    omega
  have hS := fun a b => sameL_S X.1 hXl a b
  obtain ⟨ls, f⟩ := X
  simp only at hL hL' hS hXl
  generalize plc l = ps at *
  generalize (lcheck l).1 = n at *
  generalize (lcheck l).2 = e at *
  obtain ⟨⟨s, j⟩, hs⟩ : ∃ S, lbytes l = S := ⟨_, rfl⟩
  rw [hs] at hB hB'
  simp only at hB hB'
  have d1 : cm .eql (n : Int) n = true := cm_yes rfl
  have d2 : cm .eql e e = true := cm_yes rfl
  have d3 : cm .eql j j = true := cm_yes rfl
  have d4 : cm .eql f f = true := cm_yes rfl
  have d5 : seq s s = true := by unfold seq; simp
  clear hok hX hs
  repeat (first | refine Af ?_ | refine Ac ?_ | refine Aa ?_ | refine Ae ?_ | refine Ad ?_ | refine Ag ?_ | refine Ah ?_ | refine Bd ?_ | refine Aj ?_ | refine Ax ?_ | refine Aw ?_ | refine L.not (c := ?_) | refine L.lenS (c := ?_) | refine Ap ?_ | refine Az sv ?_ | refine Au (lives_S) ?_ | refine L.callQ hC (hpre := fun w hw => hr.at hw) (k := ?_) | refine L.callQ hC' (hpre := fun w hw => hr.at hw) (k := ?_))
  refine L.callO hP (G := fun u => [u, .int .i64 e]) (hpre := fun w hw => hr.at hw) (k := ?_); intro y1 w1 g1 r1
  have hr1 := hr.back g1
  repeat (first | refine Af ?_ | refine Ac ?_ | refine Aa ?_ | refine Ad ?_ | refine Ag ?_ | refine Bd ?_ | refine Bc ?_)
  refine L.callO hP' (G := fun u => [u, .int .i64 e]) (hpre := fun w hw => hr1.at hw) (k := ?_); intro y2 w2 g2 r2
  have hr2 := hr1.back g2
  have r12 := r1.back g2
  repeat (first | refine Af ?_ | refine Ac ?_ | refine Aa ?_ | refine Ae ?_ | refine Ad ?_ | refine Ag ?_ | refine Bd ?_ | refine Bc ?_ | refine L.callQ hB (hpre := fun w hw => hr2.at hw) (k := ?_) | refine L.callQ hB' (hpre := fun w hw => hr2.at hw) (k := ?_))
  refine L.callO hL (G := fun u => [u, .int .i64 f]) (k := ?_); intro y3 w3 g3 r3
  have r13 := r12.back g3
  have r23 := r2.back g3
  repeat (first | refine Af ?_ | refine Ac ?_ | refine Aa ?_ | refine Ad ?_ | refine Ag ?_ | refine Bd ?_ | refine Bc ?_)
  refine L.callO hL' (G := fun u => [u, .int .i64 f]) (k := ?_); intro y4 w4 g4 r4
  have r14 := r13.back g4
  have r24 := r23.back g4
  have r34 := r3.back g4
  repeat (first | refine Af ?_ | refine Ac ?_ | refine Aa ?_ | refine Ae ?_ | refine Ad ?_ | refine Ag ?_ | refine Ah ?_ | refine Bd ?_ | refine Be ?_ | refine Aw ?_ | refine L.strEq (c := ?_) | refine An ?_ | refine Bc ?_ | refine L.strEq (hz := d5) (c := ?_) | refine L.callQ (hI _ _) (hpre := fun w hw => ⟨r14.at hw, r24.at hw⟩) (k := ?_) | refine L.callQ (hS _ _) (hpre := fun w hw => ⟨r34.at hw, r4.at hw⟩) (k := ?_))
  (refine D.ret (vs := [_]) (RV.tmp rfl RV.nil) ?_; intro w' hw; exact Post.mk (is := []) (At.back g1 (At.back g2 (At.back g3 (At.back g4 hw)))) List.nodup_nil rfl ⟨rfl, rfl⟩)
theorem _root_.Go.Proofs.Ytbcaelhchmoigaa.lcalls_walk (v : Value) (l : List Ln) (code : ByteArray) (w : World) (h : Lines w v l) :
    Calls Try.prog 7 #[v, .string code] w fun e w' => e = .returned (.bool true) ∧ Below w.heap.size w w' :=
  (lcalls_S l h.2.1 h.1 v code).true w h.2.2
end Go.Proofs.Ytbcaelhchmoigaa.Ly
