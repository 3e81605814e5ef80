/- Listing: what ReadAll reads, told again (plain); lives. Conditions: the library's tables as laid. -/
import Derived.Test.YtokcamgipnaoeaaGreatDoorLsI
set_option linter.unusedVariables false
set_option linter.unusedSimpArgs false
namespace Go.Proofs.YtokcamgipnaoeaaGreatDoor.Ls
open Go Go.RowKit SL Go.Shelf
attribute [local irreducible] SL.L SL.C SL.D SL.N SL.H SL.QL SL.QW SL.QP

def cnt (l : List UInt8) : Nat := l.countP (· == 10)
theorem cut_true {s : List UInt8} (h : (Lib.cut s [10]).2.2 = true) : s = (Lib.cut s [10]).1 ++ [10] ++ (Lib.cut s [10]).2.1 ∧ cnt (Lib.cut s [10]).1 = 0 := by
  unfold Lib.cut at h ⊢
  split at h
  · rename_i h0
    rw [if_pos h0]
    simp only
    rcases Lib.index_spec s [10] with ⟨h1, _⟩ | ⟨i, h1, h2, h3, h4⟩
    · rw [h1] at h0; omega
    · rw [h1, Int.toNat_natCast]
      have h3' : s[i]? = some 10 := by
        unfold Lib.occAt at h3
        have e0 : s[i]? = (s.drop i)[0]? := by rw [List.getElem?_drop, Nat.add_zero]
        rw [e0]
        cases hd : s.drop i with
        | nil => rw [hd] at h3; cases h3
        | cons a r =>
          rw [hd] at h3
          have : (10 : UInt8) = a := by simpa [List.isPrefixOf] using h3
          rw [this]; rfl
      obtain ⟨hi, he⟩ := List.getElem?_eq_some_iff.1 h3'
      refine ⟨?_, ?_⟩
      · have := List.take_append_drop i s
        conv => lhs; rw [← this, List.drop_eq_getElem_cons hi, he]
        simp
      · unfold cnt
        rw [List.countP_eq_zero]
        intro b hb hq
        have hb10 : b = 10 := by simpa using hq
        subst hb10
        obtain ⟨j, hj, hje⟩ := List.mem_iff_getElem.1 hb
        rw [List.length_take] at hj
        have h5 := h4 j (by omega)
        unfold Lib.occAt at h5
        rw [List.getElem_take] at hje
        rw [List.drop_eq_getElem_cons (by omega), hje] at h5
        simp [List.isPrefixOf] at h5
  · cases h
theorem linesF_law : ∀ (f : Nat) (s : List UInt8), s.length < f →
    (∀ l, (linesF f s).1 = some l → (∀ i ∈ l, i.ok) ∧ l.all Ins.chk = true ∧ catT l = s ∧ (linesF f s).2 = l.length ∧ (linesF f s).2 = cnt s) ∧ (linesF f s).2 ≤ cnt s
  | 0, s, h => by omega
  | f + 1, s, h => by
    unfold linesF
    by_cases h1 : s = []
    · rw [if_pos h1]
      subst h1
      refine ⟨fun l hl => ?_, Nat.zero_le _⟩
      cases hl
      exact ⟨by simp, rfl, rfl, rfl, rfl⟩
    · rw [if_neg h1]
      by_cases h2 : (Lib.cut s [10]).2.2 = true
      · rw [if_pos h2]
        have hlt := cut_len3 s [10] (by decide) h2
        obtain ⟨hs, hc⟩ := cut_true h2
        generalize Lib.cut s [10] = c at *
        have hcnt : cnt s = 1 + cnt c.2.1 := by
          rw [hs]
          unfold cnt at hc ⊢
          rw [List.countP_append, List.countP_append, hc]
          rfl
        cases hi : readI c.1 with
        | none => exact ⟨fun l hl => (by cases hl), Nat.zero_le _⟩
        | some i =>
          obtain ⟨g1, g2⟩ := linesF_law f c.2.1 (by omega)
          obtain ⟨q1, q2, q3⟩ := readI_is hi
          simp only
          refine ⟨fun l hl => ?_, by omega⟩
          obtain ⟨r, hr, rfl⟩ := Option.map_eq_some_iff.1 hl
          obtain ⟨r1, r2, r3, r4, r5⟩ := g1 r hr
          refine ⟨fun x hx => ?_, ?_, ?_, by rw [r4]; rfl, by omega⟩
          · rcases List.mem_cons.1 hx with rfl | hx
            · exact q1
            · exact r1 x hx
          · rw [List.all_cons, q2, r2]; rfl
          · show instT i ++ [10] ++ catT r = s
            rw [q3, r3]; exact hs.symm
      · rw [if_neg h2]
        exact ⟨fun l hl => (by cases hl), Nat.zero_le _⟩
theorem place_L (a b c d : Int) : Ctr Tryz.prog 16 [.int .i64 a, .int .i64 b, .int .i64 c, .int .i64 d] [] tt (is (memV a b c d) []) := by
  refine Ctr.enter Tryz.func16 Tryz.ntmps16 rfl rfl (fun w _ => ?_)
  repeat (first | refine C.seq ?_ | refine C.region ?_ | refine L.nil ?_ | refine D.seq ?_ | refine L.move (k := ?_) | refine L.assign (k := ?_) | refine L.cm (c := ?_) | refine L.ar (c := ?_) | refine L.fieldAddr (c := ?_) | refine L.load1 0 (c := ?_) | refine L.load1 1 (c := ?_) | refine L.load1 2 (c := ?_) | refine L.load1 3 (c := ?_) | refine L.load1 4 (c := ?_) | refine L.loadA 0 (c := ?_) | refine L.loadA 1 (c := ?_) | refine L.loadA 2 (c := ?_) | refine L.loadA 3 (c := ?_) | refine L.loadA 4 (c := ?_) | refine L.storeV 0 (c := ?_) | refine L.storeV 1 (c := ?_) | refine L.storeV 2 (c := ?_) | refine L.storeV 3 (c := ?_) | refine L.storeV 4 (c := ?_) | refine L.extract (c := ?_) | refine L.build (c := ?_) | refine L.alloc (c := fun _ => ?_) | refine L.box (c := fun _ => ?_) | refine L.nilCheck (k := ?_) | refine C.yes (h1 := ?_) | refine C.no (h1 := ?_) | refine L.pickT (k := ?_) | refine L.pickF (k := ?_) | refine L.want (k := ?_) | refine L.pass (k := ?_) | refine L.not (c := ?_) | refine L.lenS (c := ?_) | refine L.strNe (c := ?_) | refine L.strEq (c := ?_) | refine L.lenV (c := ?_) | refine C.block ?_ | refine D.blkNormal ?_ | refine C.ret ?_ | refine D.thenRet ?_ | refine D.blkRet ?_ | refine C.exit ?_ | refine D.thenExit ?_ | refine D.blkExit ?_ | refine D.blkOther (h := ?_) | refine C.skip ?_ | refine L.convI (c := ?_) | refine L.makeMap (c := fun _ => ?_) | refine D.any ?_ | refine D.seqR (h := ?_) | refine L.eqA (c := ?_) | refine L.neA (c := ?_) | refine L.funNil (c := ?_) | refine L.eqB (c := ?_) | refine L.neB (c := ?_) | refine L.passU (k := ?_) | refine L.makeFunc (k := ?_) | refine L.buildS (c := fun _ => ?_) | exact D.endsQ | refine QL.fin ?_ | refine N.fin (h := ?_) | refine L.assertY (c := ?_) | refine L.assertN (c := ?_) | refine N.one (i := 0) (h := ?_) | refine N.one (i := 1) (h := ?_) | refine N.one (i := 2) (h := ?_) | refine N.one (i := 3) (h := ?_) | refine N.one (i := 4) (h := ?_) | refine N.one (i := 5) (h := ?_) | refine N.one (i := 6) (h := ?_) | refine N.one (i := 7) (h := ?_) | refine N.one (i := 8) (h := ?_) | refine N.one (i := 9) (h := ?_) | refine N.one (i := 10) (h := ?_) | refine N.one (i := 11) (h := ?_) | (refine QL.step (v := ?_) (by exact rfl) (by exact rfl) ?_ ?_; rotate_left))
  (refine D.ret (vs := [_]) (RV.cellA 0 rfl rfl rfl rfl rfl RV.nil) ?_; intro w' hw; exact Post.mk (is := []) hw List.nodup_nil rfl ⟨rfl, rfl⟩)
abbrev exA : Ins := ⟨3, 9, 0, 0, 4, 1, 8, -16, 0⟩
abbrev exB : Ins := ⟨31, 0, 0, 0, 0, 0, 0, 0, -5⟩
theorem exA_ok : exA.ok := ⟨⟨by decide, by decide⟩, ⟨by decide, by decide⟩, ⟨by decide, by decide⟩⟩
theorem exB_ok : exB.ok := ⟨⟨by decide, by decide⟩, ⟨by decide, by decide⟩, ⟨by decide, by decide⟩⟩
set_option maxRecDepth 100000 in
theorem exA_R : exA.chk = true ∧ instT exA = [109, 111, 118, 32, 114, 57, 44, 32, 91, 114, 115, 112, 43, 56, 42, 114, 99, 120, 45, 49, 54, 93] := by decide +kernel
set_option maxRecDepth 100000 in
theorem exB_R : exB.chk = true ∧ instT exB = [106, 110, 122, 32, 45, 53] := by decide +kernel
set_option maxRecDepth 100000 in
set_option maxHeartbeats 8000000 in
theorem lives_S : Ctr Tryz.prog 5 [] [] Tab (is (.bool true) []) := by
  have hP := place_L 4 1 8 (-16)
  have hA := inst_S exA exA_ok
  have hB := inst_S exB exB_ok
  unfold instR at hA hB
  rw [if_pos exA_R.1, exA_R.2] at hA
  rw [if_pos exB_R.1, exB_R.2] at hB
  have e1 := seq_tx [109, 111, 118, 32, 114, 57, 44, 32, 91, 114, 115, 112, 43, 56, 42, 114, 99, 120, 45, 49, 54, 93] [109, 111, 118, 32, 114, 57, 44, 32, 91, 114, 115, 112, 43, 56, 42, 114, 99, 120, 45, 49, 54, 93]
  have e2 := seq_tx [106, 110, 122, 32, 45, 53] [106, 110, 122, 32, 45, 53]
  rw [decide_eq_true rfl] at e1 e2
  have c0 : cm .eql 0 0 = true := rfl
  refine Ctr.enter Tryz.func5 Tryz.ntmps5 rfl rfl (fun w ht => ?_)
  repeat (first | refine C.seq ?_ | refine C.region ?_ | refine L.nil ?_ | refine D.seq ?_ | refine L.move (k := ?_) | refine L.assign (k := ?_) | refine L.cm (c := ?_) | refine L.ar (c := ?_) | refine L.fieldAddr (c := ?_) | refine L.load1 0 (c := ?_) | refine L.load1 1 (c := ?_) | refine L.load1 2 (c := ?_) | refine L.load1 3 (c := ?_) | refine L.load1 4 (c := ?_) | refine L.loadA 0 (c := ?_) | refine L.loadA 1 (c := ?_) | refine L.loadA 2 (c := ?_) | refine L.loadA 3 (c := ?_) | refine L.loadA 4 (c := ?_) | refine L.storeV 0 (c := ?_) | refine L.storeV 1 (c := ?_) | refine L.storeV 2 (c := ?_) | refine L.storeV 3 (c := ?_) | refine L.storeV 4 (c := ?_) | refine L.extract (c := ?_) | refine L.build (c := ?_) | refine L.alloc (c := fun _ => ?_) | refine L.box (c := fun _ => ?_) | refine L.nilCheck (k := ?_) | refine C.yes (h1 := ?_) | refine C.no (h1 := ?_) | refine L.pickT (k := ?_) | refine L.pickF (k := ?_) | refine L.want (k := ?_) | refine L.pass (k := ?_) | refine L.not (c := ?_) | refine L.lenS (c := ?_) | refine L.strNe (c := ?_) | refine L.strEq (c := ?_) | refine L.lenV (c := ?_) | refine C.block ?_ | refine D.blkNormal ?_ | refine C.ret ?_ | refine D.thenRet ?_ | refine D.blkRet ?_ | refine C.exit ?_ | refine D.thenExit ?_ | refine D.blkExit ?_ | refine D.blkOther (h := ?_) | refine C.skip ?_ | refine L.convI (c := ?_) | refine L.makeMap (c := fun _ => ?_) | refine D.any ?_ | refine D.seqR (h := ?_) | refine L.eqA (c := ?_) | refine L.neA (c := ?_) | refine L.funNil (c := ?_) | refine L.eqB (c := ?_) | refine L.neB (c := ?_) | refine L.passU (k := ?_) | refine L.makeFunc (k := ?_) | refine L.buildS (c := fun _ => ?_) | exact D.endsQ | refine QL.fin ?_ | refine N.fin (h := ?_) | refine L.assertY (c := ?_) | refine L.assertN (c := ?_) | refine N.one (i := 0) (h := ?_) | refine N.one (i := 1) (h := ?_) | refine N.one (i := 2) (h := ?_) | refine N.one (i := 3) (h := ?_) | refine N.one (i := 4) (h := ?_) | refine N.one (i := 5) (h := ?_) | refine N.one (i := 6) (h := ?_) | refine N.one (i := 7) (h := ?_) | refine N.one (i := 8) (h := ?_) | refine N.one (i := 9) (h := ?_) | refine N.one (i := 10) (h := ?_) | refine N.one (i := 11) (h := ?_) | (refine QL.step (v := ?_) (by exact rfl) (by exact rfl) ?_ ?_; rotate_left) | refine L.callQ (hP) (k := ?_))
  refine L.callP [] hA (hpre := fun _ hw => ht.bel hw) (k := ?_)
  rintro u B ⟨rfl, rfl⟩
  rw [hdrop_nil, List.nil_append]
  repeat (first | refine C.seq ?_ | refine C.region ?_ | refine L.nil ?_ | refine D.seq ?_ | refine L.move (k := ?_) | refine L.assign (k := ?_) | refine L.cm (c := ?_) | refine L.ar (c := ?_) | refine L.fieldAddr (c := ?_) | refine L.load1 0 (c := ?_) | refine L.load1 1 (c := ?_) | refine L.load1 2 (c := ?_) | refine L.load1 3 (c := ?_) | refine L.load1 4 (c := ?_) | refine L.loadA 0 (c := ?_) | refine L.loadA 1 (c := ?_) | refine L.loadA 2 (c := ?_) | refine L.loadA 3 (c := ?_) | refine L.loadA 4 (c := ?_) | refine L.storeV 0 (c := ?_) | refine L.storeV 1 (c := ?_) | refine L.storeV 2 (c := ?_) | refine L.storeV 3 (c := ?_) | refine L.storeV 4 (c := ?_) | refine L.extract (c := ?_) | refine L.build (c := ?_) | refine L.alloc (c := fun _ => ?_) | refine L.box (c := fun _ => ?_) | refine L.nilCheck (k := ?_) | refine C.yes (h1 := ?_) | refine C.no (h1 := ?_) | refine L.pickT (k := ?_) | refine L.pickF (k := ?_) | refine L.want (k := ?_) | refine L.pass (k := ?_) | refine L.not (c := ?_) | refine L.lenS (c := ?_) | refine L.strNe (c := ?_) | refine L.strEq (c := ?_) | refine L.lenV (c := ?_) | refine C.block ?_ | refine D.blkNormal ?_ | refine C.ret ?_ | refine D.thenRet ?_ | refine D.blkRet ?_ | refine C.exit ?_ | refine D.thenExit ?_ | refine D.blkExit ?_ | refine D.blkOther (h := ?_) | refine C.skip ?_ | refine L.convI (c := ?_) | refine L.makeMap (c := fun _ => ?_) | refine D.any ?_ | refine D.seqR (h := ?_) | refine L.eqA (c := ?_) | refine L.neA (c := ?_) | refine L.funNil (c := ?_) | refine L.eqB (c := ?_) | refine L.neB (c := ?_) | refine L.passU (k := ?_) | refine L.makeFunc (k := ?_) | refine L.buildS (c := fun _ => ?_) | exact D.endsQ | refine QL.fin ?_ | refine N.fin (h := ?_) | refine L.assertY (c := ?_) | refine L.assertN (c := ?_) | refine N.one (i := 0) (h := ?_) | refine N.one (i := 1) (h := ?_) | refine N.one (i := 2) (h := ?_) | refine N.one (i := 3) (h := ?_) | refine N.one (i := 4) (h := ?_) | refine N.one (i := 5) (h := ?_) | refine N.one (i := 6) (h := ?_) | refine N.one (i := 7) (h := ?_) | refine N.one (i := 8) (h := ?_) | refine N.one (i := 9) (h := ?_) | refine N.one (i := 10) (h := ?_) | refine N.one (i := 11) (h := ?_) | (refine QL.step (v := ?_) (by exact rfl) (by exact rfl) ?_ ?_; rotate_left))
  refine L.callP [] hB (hpre := fun _ hw => ht.bel hw) (k := ?_)
  rintro u B ⟨rfl, rfl⟩
  rw [hdrop_nil, List.nil_append]
  repeat (first | refine C.seq ?_ | refine C.region ?_ | refine L.nil ?_ | refine D.seq ?_ | refine L.move (k := ?_) | refine L.assign (k := ?_) | refine L.cm (c := ?_) | refine L.ar (c := ?_) | refine L.fieldAddr (c := ?_) | refine L.load1 0 (c := ?_) | refine L.load1 1 (c := ?_) | refine L.load1 2 (c := ?_) | refine L.load1 3 (c := ?_) | refine L.load1 4 (c := ?_) | refine L.loadA 0 (c := ?_) | refine L.loadA 1 (c := ?_) | refine L.loadA 2 (c := ?_) | refine L.loadA 3 (c := ?_) | refine L.loadA 4 (c := ?_) | refine L.storeV 0 (c := ?_) | refine L.storeV 1 (c := ?_) | refine L.storeV 2 (c := ?_) | refine L.storeV 3 (c := ?_) | refine L.storeV 4 (c := ?_) | refine L.extract (c := ?_) | refine L.build (c := ?_) | refine L.alloc (c := fun _ => ?_) | refine L.box (c := fun _ => ?_) | refine L.nilCheck (k := ?_) | refine C.yes (h1 := ?_) | refine C.no (h1 := ?_) | refine L.pickT (k := ?_) | refine L.pickF (k := ?_) | refine L.want (k := ?_) | refine L.pass (k := ?_) | refine L.not (c := ?_) | refine L.lenS (c := ?_) | refine L.strNe (c := ?_) | refine L.strEq (c := ?_) | refine L.lenV (c := ?_) | refine C.block ?_ | refine D.blkNormal ?_ | refine C.ret ?_ | refine D.thenRet ?_ | refine D.blkRet ?_ | refine C.exit ?_ | refine D.thenExit ?_ | refine D.blkExit ?_ | refine D.blkOther (h := ?_) | refine C.skip ?_ | refine L.convI (c := ?_) | refine L.makeMap (c := fun _ => ?_) | refine D.any ?_ | refine D.seqR (h := ?_) | refine L.eqA (c := ?_) | refine L.neA (c := ?_) | refine L.funNil (c := ?_) | refine L.eqB (c := ?_) | refine L.neB (c := ?_) | refine L.passU (k := ?_) | refine L.makeFunc (k := ?_) | refine L.buildS (c := fun _ => ?_) | exact D.endsQ | refine QL.fin ?_ | refine N.fin (h := ?_) | refine L.assertY (c := ?_) | refine L.assertN (c := ?_) | refine N.one (i := 0) (h := ?_) | refine N.one (i := 1) (h := ?_) | refine N.one (i := 2) (h := ?_) | refine N.one (i := 3) (h := ?_) | refine N.one (i := 4) (h := ?_) | refine N.one (i := 5) (h := ?_) | refine N.one (i := 6) (h := ?_) | refine N.one (i := 7) (h := ?_) | refine N.one (i := 8) (h := ?_) | refine N.one (i := 9) (h := ?_) | refine N.one (i := 10) (h := ?_) | refine N.one (i := 11) (h := ?_) | (refine QL.step (v := ?_) (by exact rfl) (by exact rfl) ?_ ?_; rotate_left))
  (refine D.ret (vs := [_]) (RV.tmp rfl RV.nil) ?_; intro w' hw; exact Post.mk (is := []) hw List.nodup_nil rfl ⟨rfl, rfl⟩)
theorem cnt_le (l : List UInt8) : cnt l ≤ l.length := List.countP_le_length
theorem ins0_ok : ins0.ok := ⟨i64_0, i64_0, i64_0⟩
theorem ins0_chk : ins0.chk = false := by decide +kernel
end Go.Proofs.YtokcamgipnaoeaaGreatDoor.Ls
