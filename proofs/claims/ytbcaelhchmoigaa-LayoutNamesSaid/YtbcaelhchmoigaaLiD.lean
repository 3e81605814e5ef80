/- LayoutNames: the walk. -/
import Derived.Test.YtbcaelhchmoigaaLiC
import Derived.Test.YtbcaelhchmoigaaFrL
set_option linter.unusedVariables false
set_option linter.unusedSimpArgs false
namespace Go.Proofs.Ytbcaelhchmoigaa.Ly
open Go Go.RowKit Calm SL
attribute [local irreducible] SL.L SL.C SL.D SL.N SL.H SL.QL SL.QW SL.QP

theorem seqS (a : ByteArray) : seq a a = true := by unfold seq; simp
instance (x : Ln) : Decidable x.ok := by unfold Ln.ok Ins.ok; infer_instance
theorem ck1 (v : Value) : Ctr Try.prog 18 [.int .i64 1, .int .i64 6, v] [] (fun w => Rd w [] v 2 (([⟨1, ⟨0, 0, 0, 0, 0, 0, 0, 0, 0⟩, 0⟩, ⟨1, ⟨0, 0, 0, 0, 0, 0, 0, 0, 0⟩, 0⟩] : List Ln).flatMap Ln.vs)) (is (.bool true) []) := checks_S [⟨1, ⟨0, 0, 0, 0, 0, 0, 0, 0, 0⟩, 0⟩, ⟨1, ⟨0, 0, 0, 0, 0, 0, 0, 0, 0⟩, 0⟩] (by decide) (by decide) v 1 6 ⟨by kernel_rfl, by kernel_rfl⟩
theorem ck2 (v : Value) : Ctr Try.prog 18 [.int .i64 0, .int .i64 2, v] [] (fun w => Rd w [] v 1 (([⟨-1, ⟨0, 0, 0, 0, 0, 0, 0, 0, 0⟩, 0⟩] : List Ln).flatMap Ln.vs)) (is (.bool true) []) := checks_S [⟨-1, ⟨0, 0, 0, 0, 0, 0, 0, 0, 0⟩, 0⟩] (by decide) (by decide) v 0 2 ⟨by kernel_rfl, by kernel_rfl⟩
theorem ck3 (v : Value) : Ctr Try.prog 18 [.int .i64 0, .int .i64 2, v] [] (fun w => Rd w [] v 1 (([⟨1, ⟨0, 0, 0, 0, 0, 0, 0, 0, 0⟩, 1⟩] : List Ln).flatMap Ln.vs)) (is (.bool true) []) := checks_S [⟨1, ⟨0, 0, 0, 0, 0, 0, 0, 0, 0⟩, 1⟩] (by decide) (by decide) v 0 2 ⟨by kernel_rfl, by kernel_rfl⟩
theorem ck4 (v : Value) : Ctr Try.prog 18 [.int .i64 0, .int .i64 2, v] [] (fun w => Rd w [] v 1 (([⟨0, ⟨0, 0, 0, 0, 0, 0, 0, 0, 0⟩, 0⟩] : List Ln).flatMap Ln.vs)) (is (.bool true) []) := checks_S [⟨0, ⟨0, 0, 0, 0, 0, 0, 0, 0, 0⟩, 0⟩] (by decide) (by decide) v 0 2 ⟨by kernel_rfl, by kernel_rfl⟩
theorem ck5 (v : Value) : Ctr Try.prog 18 [.int .i64 0, .int .i64 2, v] [] (fun w => Rd w [] v 2 (([⟨0, ⟨33, 0, 0, 0, 0, 0, 0, 0, 0⟩, 1⟩, ⟨1, ⟨0, 0, 0, 0, 0, 0, 0, 0, 0⟩, 0⟩] : List Ln).flatMap Ln.vs)) (is (.bool true) []) := checks_S [⟨0, ⟨33, 0, 0, 0, 0, 0, 0, 0, 0⟩, 1⟩, ⟨1, ⟨0, 0, 0, 0, 0, 0, 0, 0, 0⟩, 0⟩] (by decide) (by decide) v 0 2 ⟨by kernel_rfl, by kernel_rfl⟩
theorem ck6 (v : Value) : Ctr Try.prog 18 [.int .i64 0, .int .i64 5, v] [] (fun w => Rd w [] v 1 (([⟨0, ⟨31, 0, 0, 0, 0, 0, 0, 0, 0⟩, 2⟩] : List Ln).flatMap Ln.vs)) (is (.bool true) []) := checks_S [⟨0, ⟨31, 0, 0, 0, 0, 0, 0, 0, 0⟩, 2⟩] (by decide) (by decide) v 0 5 ⟨by kernel_rfl, by kernel_rfl⟩
theorem ck7 (v : Value) : Ctr Try.prog 18 [.int .i64 0, .int .i64 2, v] [] (fun w => Rd w [] v 2 (([⟨0, ⟨31, 0, 0, 0, 0, 0, 0, 0, 1⟩, 1⟩, ⟨1, ⟨0, 0, 0, 0, 0, 0, 0, 0, 0⟩, 0⟩] : List Ln).flatMap Ln.vs)) (is (.bool true) []) := checks_S [⟨0, ⟨31, 0, 0, 0, 0, 0, 0, 0, 1⟩, 1⟩, ⟨1, ⟨0, 0, 0, 0, 0, 0, 0, 0, 0⟩, 0⟩] (by decide) (by decide) v 0 2 ⟨by kernel_rfl, by kernel_rfl⟩
theorem ck8 (v : Value) : Ctr Try.prog 18 [.int .i64 2, .int .i64 0, v] [] (fun w => Rd w [] v 2 (([⟨0, ⟨31, 0, 0, 0, 0, 0, 0, 0, 0⟩, 2⟩, ⟨2, ⟨0, 0, 0, 0, 0, 0, 0, 0, 0⟩, 0⟩] : List Ln).flatMap Ln.vs)) (is (.bool true) []) := checks_S [⟨0, ⟨31, 0, 0, 0, 0, 0, 0, 0, 0⟩, 2⟩, ⟨2, ⟨0, 0, 0, 0, 0, 0, 0, 0, 0⟩, 0⟩] (by decide) (by decide) v 2 0 ⟨by kernel_rfl, by kernel_rfl⟩
def plN : List Ln := [⟨0, ⟨33, 0, 0, 0, 0, 0, 0, 0, 0⟩, 0⟩, ⟨0, ⟨31, 0, 0, 0, 0, 0, 0, 0, 0⟩, 2⟩, ⟨2, ⟨0, 0, 0, 0, 0, 0, 0, 0, 0⟩, 0⟩, ⟨0, ⟨33, 0, 0, 0, 0, 0, 0, 0, 0⟩, 0⟩]
def blN : List Ln := [⟨0, ⟨33, 0, 0, 0, 0, 0, 0, 0, 0⟩, 0⟩, ⟨0, ⟨31, 0, 0, 0, 0, 0, 0, 0, 0⟩, 2⟩, ⟨0, ⟨33, 0, 0, 0, 0, 0, 0, 0, 0⟩, 0⟩, ⟨2, ⟨0, 0, 0, 0, 0, 0, 0, 0, 0⟩, 0⟩]
theorem pl_p : plc plN = [0, 1, 7, 7] ∧ (lcheck plN).2 = 0 := ⟨by kernel_rfl, by kernel_rfl⟩
theorem bl_b : lbytes blN = (⟨#[195, 15, 133, 1, 0, 0, 0, 195]⟩, 0) := by kernel_rfl
theorem pl_S (v : Value) : Ctr Try.prog 11 [v] [] (fun w => Rd w [] v 4 (plN.flatMap Ln.vs)) (fun u B => ∃ y, osG 1 4 (nums [0, 1, 7, 7]) y ∧ u = shut [osV 4 y, .int .i64 0] ∧ B = osC 3 y []) := by
  have h := places_S plN (by decide) (by decide) v
  rw [pl_p.1, pl_p.2] at h
  exact h
theorem bl_S (v : Value) : Ctr Try.prog 12 [v] [] (fun w => Rd w [] v 4 (blN.flatMap Ln.vs)) (is (.tuple #[.string ⟨#[195, 15, 133, 1, 0, 0, 0, 195]⟩, .int .i64 0]) []) := by
  have h := lbytes_S blN (by decide) (by decide) v
  rw [bl_b] at h
  exact h
theorem ln1_S : Ctr Try.prog 17 [.string ⟨#[233, 1, 0, 0, 0, 195]⟩] [] tt (fun u B => ∃ y, osG 11 3 (ex3.flatMap Ln.vs) y ∧ u = shut [osV 3 y, .int .i64 0] ∧ B = osC 37 y []) := by
  have h := lines_S ⟨#[233, 1, 0, 0, 0, 195]⟩ (by decide) _ 0 rows_1 (by kernel_rfl)
  rw [show (⟨#[233, 1, 0, 0, 0, 195]⟩ : ByteArray).size = 6 from rfl, lin_1] at h
  exact h
theorem ln2_S : Ctr Try.prog 17 [.string ⟨#[233, 2, 0, 0, 0, 195]⟩] [] tt (fun u B => ∃ y, osG 11 0 [] y ∧ u = shut [osV 0 y, .int .i64 4] ∧ B = osC 37 y []) := by
  have h := lines_S ⟨#[233, 2, 0, 0, 0, 195]⟩ (by decide) _ 0 rows_2 (by kernel_rfl)
  rw [show (⟨#[233, 2, 0, 0, 0, 195]⟩ : ByteArray).size = 6 from rfl, lin_2] at h
  exact h
theorem ln3_S : Ctr Try.prog 17 [.string ⟨#[0]⟩] [] tt (fun u B => ∃ y, osG 11 0 [] y ∧ u = shut [osV 0 y, .int .i64 4] ∧ B = osC 37 y []) := by
  have h := lines_S ⟨#[0]⟩ (by decide) _ 4 rows_3 (by kernel_rfl)
  rw [show linesM [] (⟨#[0]⟩ : ByteArray).size 4 = ([], 4) by kernel_rfl] at h
  exact h
set_option maxRecDepth 100000 in
set_option maxHeartbeats 16000000 in
theorem names_S : Ctr Try.prog 6 [] [] tt (is (.bool true) []) := by
  refine Ctr.enter Try.func6 Try.ntmps6 rfl rfl (fun w _ => ?_)
  repeat (first | refine C.seq ?_ | refine C.region ?_ | refine L.nil ?_ | refine D.seq ?_ | refine L.move (k := ?_) | refine L.assign (k := ?_) | refine L.cm (c := ?_) | refine L.fieldAddr (c := ?_) | refine L.loadA 0 (c := ?_) | refine L.loadA 1 (c := ?_) | refine L.loadA 2 (c := ?_) | refine L.storeV 0 (c := ?_) | refine L.extract (c := ?_) | refine L.build (c := ?_) | refine L.alloc (c := fun _ => ?_) | refine C.no (h1 := ?_) | refine L.pickT (k := ?_) | refine L.want (k := ?_) | refine L.not (c := ?_) | refine C.skip ?_ | refine D.seqR (h := ?_) | refine L.buildS (c := fun _ => ?_) | refine L.callQ (lives_S) (k := ?_) | refine L.load1 5 (c := ?_) | refine L.load1 6 (c := ?_) | refine L.load1 7 (c := ?_) | refine L.load1 8 (c := ?_) | refine L.load1 9 (c := ?_) | refine L.load1 10 (c := ?_) | refine L.load1 11 (c := ?_) | refine L.load1 12 (c := ?_) | refine L.load1 13 (c := ?_) | refine L.load1 14 (c := ?_) | refine L.load1 15 (c := ?_) | refine L.load1 16 (c := ?_) | refine L.loadA 5 (c := ?_) | refine L.loadA 6 (c := ?_) | refine L.loadA 7 (c := ?_) | refine L.loadA 8 (c := ?_) | refine L.loadA 9 (c := ?_) | refine L.loadA 10 (c := ?_) | refine L.loadA 11 (c := ?_) | refine L.loadA 12 (c := ?_) | refine L.loadA 13 (c := ?_) | refine L.loadA 14 (c := ?_) | refine L.loadA 15 (c := ?_) | refine L.loadA 16 (c := ?_) | refine L.storeV 5 (c := ?_) | refine L.storeV 6 (c := ?_) | refine L.storeV 7 (c := ?_) | refine L.storeV 8 (c := ?_) | refine L.storeV 9 (c := ?_) | refine L.storeV 10 (c := ?_) | refine L.storeV 11 (c := ?_) | refine L.storeV 12 (c := ?_) | refine L.storeV 13 (c := ?_) | refine L.storeV 14 (c := ?_) | refine L.storeV 15 (c := ?_) | refine L.storeV 16 (c := ?_) | (refine L.callO (pl_S _) (G := fun u => [u, .int .i64 0]) (hpre := (fun w hw => Rd.own (hw.holds _ List.mem_cons_self) (by simp) (by decide) 44 rfl)) (k := ?_); intro y1 w1 h1 r1) | refine L.callQ (bl_S _) (hpre := (fun w hw => Rd.own (hw.holds _ List.mem_cons_self) (by simp) (by decide) 44 rfl)) (k := ?_) | (refine L.callO ln1_S (G := fun u => [u, .int .i64 0]) (k := ?_); intro y2 w2 h2 r2) | (refine L.callO ln2_S (G := fun u => [u, .int .i64 4]) (k := ?_); intro y3 w3 h3 r3) | (refine L.callO ln3_S (G := fun u => [u, .int .i64 4]) (k := ?_); intro y4 w4 h4 r4) | refine L.callQ (ck1 _) (hpre := (fun w hw => Rd.own (hw.holds _ List.mem_cons_self) (by simp) (by decide) 22 rfl)) (k := ?_) | refine L.callQ (ck2 _) (hpre := (fun w hw => Rd.own (hw.holds _ List.mem_cons_self) (by simp) (by decide) 11 rfl)) (k := ?_) | refine L.callQ (ck3 _) (hpre := (fun w hw => Rd.own (hw.holds _ List.mem_cons_self) (by simp) (by decide) 11 rfl)) (k := ?_) | refine L.callQ (ck4 _) (hpre := (fun w hw => Rd.own (hw.holds _ List.mem_cons_self) (by simp) (by decide) 11 rfl)) (k := ?_) | refine L.callQ (ck5 _) (hpre := (fun w hw => Rd.own (hw.holds _ List.mem_cons_self) (by simp) (by decide) 22 rfl)) (k := ?_) | refine L.callQ (ck6 _) (hpre := (fun w hw => Rd.own (hw.holds _ List.mem_cons_self) (by simp) (by decide) 11 rfl)) (k := ?_) | refine L.callQ (ck7 _) (hpre := (fun w hw => Rd.own (hw.holds _ List.mem_cons_self) (by simp) (by decide) 22 rfl)) (k := ?_) | refine L.callQ (ck8 _) (hpre := (fun w hw => Rd.own (hw.holds _ List.mem_cons_self) (by simp) (by decide) 22 rfl)) (k := ?_))
  have R1 := ((r1.back h2).back h3).back h4
  have R2 := (r2.back h3).back h4
  repeat (first | refine L.strEq (z := true) (hz := seqS _) (c := ?_) | refine L.nil ?_ | refine D.seq ?_ | refine L.move (k := ?_) | refine L.assign (k := ?_) | refine L.cm (c := ?_) | refine L.build (c := ?_) | refine L.pickT (k := ?_) | refine L.want (k := ?_) | refine C.ret ?_ | refine L.buildS (c := fun _ => ?_) | refine L.callQ (lives_S) (k := ?_) | refine L.load1 5 (c := ?_) | refine L.load1 6 (c := ?_) | refine L.load1 7 (c := ?_) | refine L.load1 8 (c := ?_) | refine L.load1 9 (c := ?_) | refine L.load1 10 (c := ?_) | refine L.load1 11 (c := ?_) | refine L.load1 12 (c := ?_) | refine L.load1 13 (c := ?_) | refine L.load1 14 (c := ?_) | refine L.load1 15 (c := ?_) | refine L.load1 16 (c := ?_) | refine L.loadA 5 (c := ?_) | refine L.loadA 6 (c := ?_) | refine L.loadA 7 (c := ?_) | refine L.loadA 8 (c := ?_) | refine L.loadA 9 (c := ?_) | refine L.loadA 10 (c := ?_) | refine L.loadA 11 (c := ?_) | refine L.loadA 12 (c := ?_) | refine L.loadA 13 (c := ?_) | refine L.loadA 14 (c := ?_) | refine L.loadA 15 (c := ?_) | refine L.loadA 16 (c := ?_) | refine L.storeV 5 (c := ?_) | refine L.storeV 6 (c := ?_) | refine L.storeV 7 (c := ?_) | refine L.storeV 8 (c := ?_) | refine L.storeV 9 (c := ?_) | refine L.storeV 10 (c := ?_) | refine L.storeV 11 (c := ?_) | refine L.storeV 12 (c := ?_) | refine L.storeV 13 (c := ?_) | refine L.storeV 14 (c := ?_) | refine L.storeV 15 (c := ?_) | refine L.storeV 16 (c := ?_) | refine L.callQ (sameI_S [0, 1, 7, 7] (by decide) _ _) (hpre := fun w hw => ⟨R1.at hw, Rd.own (hw.holds _ List.mem_cons_self) (by simp) (by decide) 4 rfl⟩) (k := ?_) | refine L.callQ (sameL_S ex3 (by decide) _ _) (hpre := fun w hw => ⟨R2.at hw, Rd.own (hw.holds _ List.mem_cons_self) (by simp) (by decide) 33 rfl⟩) (k := ?_))
  refine D.ret (vs := [_]) (RV.tmp rfl RV.nil) ?_
  intro w' hw
  exact Post.mk (is := []) (At.back h1 (At.back h2 (At.back h3 (At.back h4 hw)))) List.nodup_nil rfl ⟨by kernel_rfl, rfl⟩
theorem _root_.Go.Proofs.Ytbcaelhchmoigaa.lnames_walk (w : World) : Calls Try.prog 6 #[] w fun e w' => e = .returned (.bool true) ∧ Below w.heap.size w w' := names_S.true w trivial
end Go.Proofs.Ytbcaelhchmoigaa.Ly
