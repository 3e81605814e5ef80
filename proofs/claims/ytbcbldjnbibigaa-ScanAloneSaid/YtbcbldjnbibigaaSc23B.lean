/- The law ScanAlone's walk: a case. -/
import Derived.Test.YtbcbldjnbibigaaSc22
set_option linter.unusedVariables false
set_option linter.unusedSimpArgs false
namespace Go.Proofs.Ytbcbldjnbibigaa
open Go Go.RowKit SL
attribute [local irreducible] SL.L SL.C SL.D SL.N SL.H SL.QL SL.QW SL.QP
set_option maxHeartbeats 32000000 in
theorem alone_B (s : ByteArray) (p q : Int) (hp : -9223372036854775808 ≤ p ∧ p ≤ 9223372036854775807) (hq : -9223372036854775808 ≤ q ∧ q ≤ 9223372036854775807) (hs : s.size ≤ 200) (a : List Tok) (ka : Nat) (hA : allP s = (a, ka, 0)) (hne : ¬ a.length = 0) (i j : Nat) (hi : pickI p a.length = i) (hil : i < a.length) (hj : pickI q a.length = j) (hjl : j < a.length)
    (x : Tok) (hx : a[i]? = some x) (hk : x.k = 1) (hl1 : x.t.size = 1) : Ctr Try.prog 4 [.string s, .int .i64 p, .int .i64 q] [] tt (is (.bool true) []) := by
        have c0 : cm .gtr (s.size : Int) 200 = false := cm_gt' (by omega)
        have hla := allP_len s
        have hlay := allP_lay s
        have hwd := allP_wd s
        rw [hA] at hla hlay hwd
        simp only at hla hlay hwd
        refine Ctr.enter Try.func4 Try.ntmps4 rfl rfl (fun w _ => ?_)
        try simp only [List.append_eq, List.cons_append, List.nil_append]
        repeat (first | refine C.seq ?_ | refine C.region ?_ | refine L.nil ?_ | refine D.seq ?_ | refine L.move (k := ?_) | refine L.assign (k := ?_) | refine L.cm (c := ?_) | refine L.ar (c := ?_) | refine L.fieldAddr (c := ?_) | refine L.load1 0 (c := ?_) | refine L.load1 1 (c := ?_) | refine L.load1 2 (c := ?_) | refine L.load1 3 (c := ?_) | refine L.load1 4 (c := ?_) | refine L.loadA 0 (c := ?_) | refine L.loadA 1 (c := ?_) | refine L.loadA 2 (c := ?_) | refine L.loadA 3 (c := ?_) | refine L.loadA 4 (c := ?_) | refine L.storeV 0 (c := ?_) | refine L.storeV 1 (c := ?_) | refine L.storeV 2 (c := ?_) | refine L.storeV 3 (c := ?_) | refine L.storeV 4 (c := ?_) | refine L.extract (c := ?_) | refine L.build (c := ?_) | refine L.alloc (c := fun _ => ?_) | refine L.box (c := fun _ => ?_) | refine L.nilCheck (k := ?_) | refine C.yes (h1 := ?_) | refine C.no (h1 := ?_) | refine L.pickT (k := ?_) | refine L.pickF (k := ?_) | refine L.want (k := ?_) | refine L.pass (k := ?_) | refine L.not (c := ?_) | refine L.lenS (c := ?_) | refine L.strNe (c := ?_) | refine L.strEq (c := ?_) | refine L.lenV (c := ?_) | refine C.block ?_ | refine D.blkNormal ?_ | refine C.ret ?_ | refine D.thenRet ?_ | refine D.blkRet ?_ | refine C.exit ?_ | refine D.thenExit ?_ | refine D.blkExit ?_ | refine D.blkOther (h := ?_) | refine C.skip ?_ | refine L.convI (c := ?_) | refine L.makeMap (c := fun _ => ?_) | refine D.any ?_ | refine D.seqR (h := ?_) | refine L.eqA (c := ?_) | refine L.neA (c := ?_) | refine L.funNil (c := ?_) | refine L.eqB (c := ?_) | refine L.neB (c := ?_) | refine L.passU (k := ?_) | refine L.makeFunc (k := ?_) | refine L.buildS (c := fun _ => ?_) | exact D.endsQ | refine QL.fin ?_ | refine C.quiet (h := ?_) | refine C.mixed (h := ?_) | refine QW.fin (h := ?_) | refine QW.load 0 (k := ?_) | refine QW.load 1 (k := ?_) | refine QW.load 2 (k := ?_) | refine QW.load 3 (k := ?_) | refine QW.load 4 (k := ?_) | refine QW.load 5 (k := ?_) | refine QW.loadA 0 (k := ?_) | refine QW.loadA 1 (k := ?_) | refine QW.loadA 2 (k := ?_) | refine QW.loadA 3 (k := ?_) | refine QW.loadA 4 (k := ?_) | refine QW.loadA 5 (k := ?_) | refine QW.store 0 (k := ?_) | refine QW.store 1 (k := ?_) | refine QW.store 2 (k := ?_) | refine QW.store 3 (k := ?_) | refine QW.store 4 (k := ?_) | refine QW.store 5 (k := ?_) | (refine QW.free (v := ?_) (by exact rfl) (by exact rfl) (fun w1 hk1 => ?_) ?_; rotate_left) | refine N.fin (h := ?_) | refine L.assertY (c := ?_) | refine L.assertN (c := ?_) | refine N.one (i := 0) (h := ?_) | refine N.one (i := 1) (h := ?_) | refine N.one (i := 2) (h := ?_) | refine N.one (i := 3) (h := ?_) | refine N.one (i := 4) (h := ?_) | refine N.one (i := 5) (h := ?_) | refine N.one (i := 6) (h := ?_) | refine N.one (i := 7) (h := ?_) | refine N.one (i := 8) (h := ?_) | refine N.one (i := 9) (h := ?_) | refine N.one (i := 10) (h := ?_) | refine N.one (i := 11) (h := ?_) | (refine QL.step (v := ?_) (by exact rfl) (by exact rfl) ?_ ?_; rotate_left) | refine L.callQ (lives_S) (k := ?_))
        refine L.callO (G := fun v => [v, _, _]) (all_E hA) (k := ?_)
        intro y1 w1 h1 r1
        have s1 := r1.1
        have c1 : cm .eql (a.length : Int) 0 = false := cm_no (by omega)
        have p1 := pick_S p a.length hp (by omega)
        have p2 := pick_S q a.length hq (by omega)
        rw [hi] at p1
        rw [hj] at p2
        obtain ⟨z, hz⟩ : ∃ z, a[j]? = some z := ⟨_, List.getElem?_eq_getElem hjl⟩
        have wx := hwd x (List.mem_of_getElem? hx)
        have wz := hwd z (List.mem_of_getElem? hz)
        have lx := (hlay.at hx).2.1
        have lz := (hlay.at hz).2.1
        have kx : ((a.flatMap encT).drop (i * 3)).take 3 = [.int .i64 x.k, .string x.t, .int .i64 x.p] := (flat_at encT_len hx).1
        have kz : ((a.flatMap encT).drop (j * 3)).take 3 = [.int .i64 z.k, .string z.t, .int .i64 z.p] := (flat_at encT_len hz).1
        have kx2 := (flat_at encT_len hx).2
        have kz2 := (flat_at encT_len hz).2
        have o1 := r1.2 (by omega)
        have ax := alone1 wx (by rw [bl_len]; omega)
        have axz := alone2 (s := x.t ++ ⟨#[35]⟩ ++ ⟨#[10]⟩ ++ z.t) wx wz (by unfold Bl; simp) (by rw [bl_len, bl_len]; omega)
        have isx := wd_num wx
        have lex := @wd_let x.k
        obtain ⟨xk, xt, xp⟩ := x
        obtain ⟨zk, zt, zp⟩ := z
        simp only at wx wz lx lz kx kz ax axz isx lex hk hl1
        have exx : (⟨(Bl xt).toArray⟩ : ByteArray) = xt := rfl
        have ezz : (⟨(Bl zt).toArray⟩ : ByteArray) = zt := rfl
        rw [exx, bl_len] at ax
        rw [exx, ezz, bl_len] at axz
        rw [exx] at isx
        repeat (first | refine C.seq ?_ | refine C.region ?_ | refine L.nil ?_ | refine D.seq ?_ | refine L.move (k := ?_) | refine L.assign (k := ?_) | refine L.cm (c := ?_) | refine L.ar (c := ?_) | refine L.fieldAddr (c := ?_) | refine L.load1 0 (c := ?_) | refine L.load1 1 (c := ?_) | refine L.load1 2 (c := ?_) | refine L.load1 3 (c := ?_) | refine L.load1 4 (c := ?_) | refine L.loadA 0 (c := ?_) | refine L.loadA 1 (c := ?_) | refine L.loadA 2 (c := ?_) | refine L.loadA 3 (c := ?_) | refine L.loadA 4 (c := ?_) | refine L.storeV 0 (c := ?_) | refine L.storeV 1 (c := ?_) | refine L.storeV 2 (c := ?_) | refine L.storeV 3 (c := ?_) | refine L.storeV 4 (c := ?_) | refine L.extract (c := ?_) | refine L.build (c := ?_) | refine L.alloc (c := fun _ => ?_) | refine L.box (c := fun _ => ?_) | refine L.nilCheck (k := ?_) | refine C.yes (h1 := ?_) | refine C.no (h1 := ?_) | refine L.pickT (k := ?_) | refine L.pickF (k := ?_) | refine L.want (k := ?_) | refine L.pass (k := ?_) | refine L.not (c := ?_) | refine L.lenS (c := ?_) | refine L.strNe (c := ?_) | refine L.strEq (c := ?_) | refine L.lenV (c := ?_) | refine C.block ?_ | refine D.blkNormal ?_ | refine C.ret ?_ | refine D.thenRet ?_ | refine D.blkRet ?_ | refine C.exit ?_ | refine D.thenExit ?_ | refine D.blkExit ?_ | refine D.blkOther (h := ?_) | refine C.skip ?_ | refine L.convI (c := ?_) | refine L.makeMap (c := fun _ => ?_) | refine D.any ?_ | refine D.seqR (h := ?_) | refine L.eqA (c := ?_) | refine L.neA (c := ?_) | refine L.funNil (c := ?_) | refine L.eqB (c := ?_) | refine L.neB (c := ?_) | refine L.passU (k := ?_) | refine L.makeFunc (k := ?_) | refine L.buildS (c := fun _ => ?_) | exact D.endsQ | refine QL.fin ?_ | refine C.quiet (h := ?_) | refine N.fin (h := ?_) | refine L.assertY (c := ?_) | refine L.assertN (c := ?_) | refine N.one (i := 0) (h := ?_) | refine N.one (i := 1) (h := ?_) | refine N.one (i := 2) (h := ?_) | refine N.one (i := 3) (h := ?_) | refine N.one (i := 4) (h := ?_) | refine N.one (i := 5) (h := ?_) | refine N.one (i := 6) (h := ?_) | refine N.one (i := 7) (h := ?_) | refine N.one (i := 8) (h := ?_) | refine N.one (i := 9) (h := ?_) | refine N.one (i := 10) (h := ?_) | refine N.one (i := 11) (h := ?_) | (refine QL.step (v := ?_) (by exact rfl) (by exact rfl) ?_ ?_; rotate_left) | refine L.lenR s1 (c := ?_))
        refine C.make (M0 := []) (by kernel_rfl) (h := ?_)
        iterate 14 ((refine QP.quiet (v := ?_) (by exact rfl) (by exact rfl) (fun w2 g2 => ?_) ?_; rotate_left); repeat (first | refine C.seq ?_ | refine C.region ?_ | refine L.nil ?_ | refine D.seq ?_ | refine L.move (k := ?_) | refine L.assign (k := ?_) | refine L.cm (c := ?_) | refine L.ar (c := ?_) | refine L.fieldAddr (c := ?_) | refine L.load1 0 (c := ?_) | refine L.load1 1 (c := ?_) | refine L.load1 2 (c := ?_) | refine L.load1 3 (c := ?_) | refine L.load1 4 (c := ?_) | refine L.loadA 0 (c := ?_) | refine L.loadA 1 (c := ?_) | refine L.loadA 2 (c := ?_) | refine L.loadA 3 (c := ?_) | refine L.loadA 4 (c := ?_) | refine L.storeV 0 (c := ?_) | refine L.storeV 1 (c := ?_) | refine L.storeV 2 (c := ?_) | refine L.storeV 3 (c := ?_) | refine L.storeV 4 (c := ?_) | refine L.extract (c := ?_) | refine L.build (c := ?_) | refine L.alloc (c := fun _ => ?_) | refine L.box (c := fun _ => ?_) | refine L.nilCheck (k := ?_) | refine C.yes (h1 := ?_) | refine C.no (h1 := ?_) | refine L.pickT (k := ?_) | refine L.pickF (k := ?_) | refine L.want (k := ?_) | refine L.pass (k := ?_) | refine L.not (c := ?_) | refine L.lenS (c := ?_) | refine L.strNe (c := ?_) | refine L.strEq (c := ?_) | refine L.lenV (c := ?_) | refine C.block ?_ | refine D.blkNormal ?_ | refine C.ret ?_ | refine D.thenRet ?_ | refine D.blkRet ?_ | refine C.exit ?_ | refine D.thenExit ?_ | refine D.blkExit ?_ | refine D.blkOther (h := ?_) | refine C.skip ?_ | refine L.convI (c := ?_) | refine L.makeMap (c := fun _ => ?_) | refine D.any ?_ | refine D.seqR (h := ?_) | refine L.eqA (c := ?_) | refine L.neA (c := ?_) | refine L.funNil (c := ?_) | refine L.eqB (c := ?_) | refine L.neB (c := ?_) | refine L.passU (k := ?_) | refine L.makeFunc (k := ?_) | refine L.buildS (c := fun _ => ?_) | exact D.endsQ | refine QL.fin ?_ | refine C.quiet (h := ?_) | refine N.fin (h := ?_) | refine L.assertY (c := ?_) | refine L.assertN (c := ?_) | refine N.one (i := 0) (h := ?_) | refine N.one (i := 1) (h := ?_) | refine N.one (i := 2) (h := ?_) | refine N.one (i := 3) (h := ?_) | refine N.one (i := 4) (h := ?_) | refine N.one (i := 5) (h := ?_) | refine N.one (i := 6) (h := ?_) | refine N.one (i := 7) (h := ?_) | refine N.one (i := 8) (h := ?_) | refine N.one (i := 9) (h := ?_) | refine N.one (i := 10) (h := ?_) | refine N.one (i := 11) (h := ?_) | (refine QL.step (v := ?_) (by exact rfl) (by exact rfl) ?_ ?_; rotate_left) | refine L.lenR s1 (c := ?_) | refine L.callQ (p1) (k := ?_) | refine L.callQ (p2) (k := ?_) | refine L.indexR s1 hil (c := ?_) | refine L.indexR s1 hjl (c := ?_) | refine L.loadOA (o1.base g2 [] (fun _ h => h)) (i := i * 3) (ho := by exact rfl) (hi := kx2) (hcs := kx) (c := ?_) | refine L.loadOA (o1.base g2 [] (fun _ h => h)) (i := j * 3) (ho := by exact rfl) (hi := kz2) (hcs := kz) (c := ?_)))
        refine QP.mk0 [] (fun F B => ∃ b, F = [(10, .pointer (some ⟨b, 0, none⟩))] ∧ B = [(b, ob [.int .i64 0, .string ⟨#[]⟩, .int .i64 0] 28)]) (h := fun w2 g2 => ?_) (k := ?_)
        · refine L.alloc (c := fun b => ?_)
          refine L.nil ?_
          exact D.endsP1 [(b, _)] (hR := ⟨b, rfl, rfl⟩)
        refine QP.mk0 [] (fun F B => ∃ b, F = [(11, .pointer (some ⟨b, 0, none⟩))] ∧ B = [(b, ob [.int .i64 0, .string ⟨#[]⟩, .int .i64 0] 28)]) (h := fun w2 g2 => ?_) (k := ?_)
        · refine L.alloc (c := fun b => ?_)
          refine L.nil ?_
          exact D.endsP1 [(b, _)] (hR := ⟨b, rfl, rfl⟩)
        refine QP.mk1 14 [] (fun F B => ∃ b, F = [(10, .pointer (some ⟨b, 0, none⟩))] ∧ B = [(b, ob [.int .i64 xk, .string xt, .int .i64 xp] 28)]) (h := ?_) (k := ?_)
        · rintro F B ⟨b, rfl, rfl⟩ w2 g2
          simp only [List.cons_append, List.nil_append]
          refine L.storeV 0 (c := ?_)
          refine L.nil ?_
          exact D.endsP0 [(10, .pointer (some ⟨b, 0, none⟩))] [(b, _)] (hF := fun _ _ h => h) (hR := ⟨b, rfl, rfl⟩)
        refine QP.mk1 15 [] (fun F B => ∃ b, F = [(11, .pointer (some ⟨b, 0, none⟩))] ∧ B = [(b, ob [.int .i64 zk, .string zt, .int .i64 zp] 28)]) (h := ?_) (k := ?_)
        · rintro F B ⟨b, rfl, rfl⟩ w2 g2
          simp only [List.cons_append, List.nil_append]
          refine L.storeV 0 (c := ?_)
          refine L.nil ?_
          exact D.endsP0 [(11, .pointer (some ⟨b, 0, none⟩))] [(b, _)] (hF := fun _ _ h => h) (hR := ⟨b, rfl, rfl⟩)
        refine QP.fin2 [none, none, none, none, none, none, none, none, none, none, none, none, none, none, some [], some [], some [14], some [15]] 16 17 (hM := List.Perm.refl _) (k := ?_)
        rintro F1 B1 F2 B2 ⟨b1, rfl, rfl⟩ ⟨b2, rfl, rfl⟩
        simp only [List.cons_append, List.nil_append]
        have hn1 := number_S xt (by omega)
        have hn2 := number_S (⟨#[48]⟩ ++ xt) (by rw [ByteArray.size_append]; show 1 + xt.size ≤ _; omega)
        have hb48 : Bl (⟨#[48]⟩ ++ xt) = 48 :: Bl xt := by rw [bl_app]; rfl
        rw [hb48, num_zero] at hn2
        rw [isx] at hn1
        generalize ((numL (Bl xt) 0).getD 0 : Nat) = V at hn1 hn2
        generalize ((numL (Bl xt) 0).isSome && sne (⟨#[48]⟩ ++ xt) ⟨#[]⟩) = B2 at hn2
        have sa1 : (⟨#[48]⟩ : ByteArray).size + xt.size ≤ 1000000000 := by show 1 + xt.size ≤ _; omega
        have sa2 : xt.size + (⟨#[35]⟩ : ByteArray).size ≤ 1000000000 := by show xt.size + 1 ≤ _; omega
        have sa3 : (xt ++ ⟨#[35]⟩).size + (⟨#[10]⟩ : ByteArray).size ≤ 1000000000 := by rw [ByteArray.size_append]; show xt.size + 1 + 1 ≤ _; omega
        have sa4 : (xt ++ ⟨#[35]⟩ ++ ⟨#[10]⟩).size + zt.size ≤ 1000000000 := by rw [ByteArray.size_append, ByteArray.size_append]; show xt.size + 1 + 1 + zt.size ≤ _; omega
        repeat (first | refine C.seq ?_ | refine C.region ?_ | refine L.nil ?_ | refine D.seq ?_ | refine L.move (k := ?_) | refine L.assign (k := ?_) | refine L.cm (c := ?_) | refine L.ar (c := ?_) | refine L.fieldAddr (c := ?_) | refine L.load1 0 (c := ?_) | refine L.load1 1 (c := ?_) | refine L.load1 2 (c := ?_) | refine L.load1 3 (c := ?_) | refine L.load1 4 (c := ?_) | refine L.loadA 0 (c := ?_) | refine L.loadA 1 (c := ?_) | refine L.loadA 2 (c := ?_) | refine L.loadA 3 (c := ?_) | refine L.loadA 4 (c := ?_) | refine L.storeV 0 (c := ?_) | refine L.storeV 1 (c := ?_) | refine L.storeV 2 (c := ?_) | refine L.storeV 3 (c := ?_) | refine L.storeV 4 (c := ?_) | refine L.extract (c := ?_) | refine L.build (c := ?_) | refine L.alloc (c := fun _ => ?_) | refine L.box (c := fun _ => ?_) | refine L.nilCheck (k := ?_) | refine C.yes (h1 := ?_) | refine C.no (h1 := ?_) | refine L.pickT (k := ?_) | refine L.pickF (k := ?_) | refine L.want (k := ?_) | refine L.pass (k := ?_) | refine L.not (c := ?_) | refine L.lenS (c := ?_) | refine L.strNe (c := ?_) | refine L.strEq (c := ?_) | refine L.lenV (c := ?_) | refine C.block ?_ | refine D.blkNormal ?_ | refine C.ret ?_ | refine D.thenRet ?_ | refine D.blkRet ?_ | refine C.exit ?_ | refine D.thenExit ?_ | refine D.blkExit ?_ | refine D.blkOther (h := ?_) | refine C.skip ?_ | refine L.convI (c := ?_) | refine L.makeMap (c := fun _ => ?_) | refine D.any ?_ | refine D.seqR (h := ?_) | refine L.eqA (c := ?_) | refine L.neA (c := ?_) | refine L.funNil (c := ?_) | refine L.eqB (c := ?_) | refine L.neB (c := ?_) | refine L.passU (k := ?_) | refine L.makeFunc (k := ?_) | refine L.buildS (c := fun _ => ?_) | exact D.endsQ | refine QL.fin ?_ | refine C.quiet (h := ?_) | refine C.mixed (h := ?_) | refine QW.fin (h := ?_) | refine QW.load 0 (k := ?_) | refine QW.load 1 (k := ?_) | refine QW.load 2 (k := ?_) | refine QW.load 3 (k := ?_) | refine QW.load 4 (k := ?_) | refine QW.load 5 (k := ?_) | refine QW.loadA 0 (k := ?_) | refine QW.loadA 1 (k := ?_) | refine QW.loadA 2 (k := ?_) | refine QW.loadA 3 (k := ?_) | refine QW.loadA 4 (k := ?_) | refine QW.loadA 5 (k := ?_) | refine QW.store 0 (k := ?_) | refine QW.store 1 (k := ?_) | refine QW.store 2 (k := ?_) | refine QW.store 3 (k := ?_) | refine QW.store 4 (k := ?_) | refine QW.store 5 (k := ?_) | (refine QW.free (v := ?_) (by exact rfl) (by exact rfl) (fun w1 hk1 => ?_) ?_; rotate_left) | refine N.fin (h := ?_) | refine L.assertY (c := ?_) | refine L.assertN (c := ?_) | refine N.one (i := 0) (h := ?_) | refine N.one (i := 1) (h := ?_) | refine N.one (i := 2) (h := ?_) | refine N.one (i := 3) (h := ?_) | refine N.one (i := 4) (h := ?_) | refine N.one (i := 5) (h := ?_) | refine N.one (i := 6) (h := ?_) | refine N.one (i := 7) (h := ?_) | refine N.one (i := 8) (h := ?_) | refine N.one (i := 9) (h := ?_) | refine N.one (i := 10) (h := ?_) | refine N.one (i := 11) (h := ?_) | (refine QL.step (v := ?_) (by exact rfl) (by exact rfl) ?_ ?_; rotate_left))
        refine L.callO (G := fun v => [v, _, _]) (all_E ax) (k := ?_)
        intro y2 w2 h2 r2
        repeat (first | refine C.seq ?_ | refine C.region ?_ | refine L.nil ?_ | refine D.seq ?_ | refine L.move (k := ?_) | refine L.assign (k := ?_) | refine L.cm (c := ?_) | refine L.ar (c := ?_) | refine L.fieldAddr (c := ?_) | refine L.load1 0 (c := ?_) | refine L.load1 1 (c := ?_) | refine L.load1 2 (c := ?_) | refine L.load1 3 (c := ?_) | refine L.load1 4 (c := ?_) | refine L.loadA 0 (c := ?_) | refine L.loadA 1 (c := ?_) | refine L.loadA 2 (c := ?_) | refine L.loadA 3 (c := ?_) | refine L.loadA 4 (c := ?_) | refine L.storeV 0 (c := ?_) | refine L.storeV 1 (c := ?_) | refine L.storeV 2 (c := ?_) | refine L.storeV 3 (c := ?_) | refine L.storeV 4 (c := ?_) | refine L.extract (c := ?_) | refine L.build (c := ?_) | refine L.alloc (c := fun _ => ?_) | refine L.box (c := fun _ => ?_) | refine L.nilCheck (k := ?_) | refine C.yes (h1 := ?_) | refine C.no (h1 := ?_) | refine L.pickT (k := ?_) | refine L.pickF (k := ?_) | refine L.want (k := ?_) | refine L.pass (k := ?_) | refine L.not (c := ?_) | refine L.lenS (c := ?_) | refine L.strNe (c := ?_) | refine L.strEq (c := ?_) | refine L.lenV (c := ?_) | refine C.block ?_ | refine D.blkNormal ?_ | refine C.ret ?_ | refine D.thenRet ?_ | refine D.blkRet ?_ | refine C.exit ?_ | refine D.thenExit ?_ | refine D.blkExit ?_ | refine D.blkOther (h := ?_) | refine C.skip ?_ | refine L.convI (c := ?_) | refine L.makeMap (c := fun _ => ?_) | refine D.any ?_ | refine D.seqR (h := ?_) | refine L.eqA (c := ?_) | refine L.neA (c := ?_) | refine L.funNil (c := ?_) | refine L.eqB (c := ?_) | refine L.neB (c := ?_) | refine L.passU (k := ?_) | refine L.makeFunc (k := ?_) | refine L.buildS (c := fun _ => ?_) | exact D.endsQ | refine QL.fin ?_ | refine C.quiet (h := ?_) | refine C.mixed (h := ?_) | refine QW.fin (h := ?_) | refine QW.load 0 (k := ?_) | refine QW.load 1 (k := ?_) | refine QW.load 2 (k := ?_) | refine QW.load 3 (k := ?_) | refine QW.load 4 (k := ?_) | refine QW.load 5 (k := ?_) | refine QW.loadA 0 (k := ?_) | refine QW.loadA 1 (k := ?_) | refine QW.loadA 2 (k := ?_) | refine QW.loadA 3 (k := ?_) | refine QW.loadA 4 (k := ?_) | refine QW.loadA 5 (k := ?_) | refine QW.store 0 (k := ?_) | refine QW.store 1 (k := ?_) | refine QW.store 2 (k := ?_) | refine QW.store 3 (k := ?_) | refine QW.store 4 (k := ?_) | refine QW.store 5 (k := ?_) | (refine QW.free (v := ?_) (by exact rfl) (by exact rfl) (fun w1 hk1 => ?_) ?_; rotate_left) | refine N.fin (h := ?_) | refine L.assertY (c := ?_) | refine L.assertN (c := ?_) | refine N.one (i := 0) (h := ?_) | refine N.one (i := 1) (h := ?_) | refine N.one (i := 2) (h := ?_) | refine N.one (i := 3) (h := ?_) | refine N.one (i := 4) (h := ?_) | refine N.one (i := 5) (h := ?_) | refine N.one (i := 6) (h := ?_) | refine N.one (i := 7) (h := ?_) | refine N.one (i := 8) (h := ?_) | refine N.one (i := 9) (h := ?_) | refine N.one (i := 10) (h := ?_) | refine N.one (i := 11) (h := ?_) | (refine QL.step (v := ?_) (by exact rfl) (by exact rfl) ?_ ?_; rotate_left) | refine L.strAdd sa2 (c := ?_) | refine L.strAdd sa3 (c := ?_) | refine L.strAdd sa4 (c := ?_))
        refine L.callO (G := fun v => [v, _, _]) (all_E axz) (k := ?_)
        intro y3 w3 h3 r3
        have r2 := r2.back h3
        have s2 := r2.1
        have s3 := r3.1
        have hback := fun (M2 : Hp) (w' : World) (hw : At w3 (keys [(b1, ob [.int .i64 xk, .string xt, .int .i64 xp] 28), (b2, ob [.int .i64 zk, .string zt, .int .i64 zp] 28)]) M2 w') => h1.back (h2.back (h3.back hw))
        have o2 := r2.2 (by simp)
        have o3 := r3.2 (by simp)
        have hk2 : 0 < ([⟨xk, xt, 0⟩] : List Tok).length := by simp
        have hk3 : 0 < ([⟨xk, xt, 0⟩, ⟨zk, zt, xt.size + 2⟩] : List Tok).length := by simp
        have hk4 : 1 < ([⟨xk, xt, 0⟩, ⟨zk, zt, xt.size + 2⟩] : List Tok).length := by simp
        have hcs2 : ((([⟨xk, xt, 0⟩] : List Tok).flatMap encT).drop 0).take 3 = [.int .i64 xk, .string xt, .int .i64 ((0 : Nat) : Int)] := rfl
        have hh2 : 0 + 3 ≤ (([⟨xk, xt, 0⟩] : List Tok).flatMap encT).length := by simp [encT]
        have u01 : (([⟨xk, xt, 0⟩, ⟨zk, zt, xt.size + 2⟩] : List Tok).flatMap encT)[0 * 3 + 1]? = some (.string xt) := rfl
        have u10 : (([⟨xk, xt, 0⟩, ⟨zk, zt, xt.size + 2⟩] : List Tok).flatMap encT)[1 * 3 + 0]? = some (.int .i64 zk) := rfl
        have u11 : (([⟨xk, xt, 0⟩, ⟨zk, zt, xt.size + 2⟩] : List Tok).flatMap encT)[1 * 3 + 1]? = some (.string zt) := rfl
        have u12 : (([⟨xk, xt, 0⟩, ⟨zk, zt, xt.size + 2⟩] : List Tok).flatMap encT)[1 * 3 + 2]? = some (.int .i64 ((xt.size + 2 : Nat) : Int)) := rfl
        have d0 : seq xt xt = true := seq_iff.2 rfl
        have d1 : seq zt zt = true := seq_iff.2 rfl
        have d2 : cm .eql zk zk = true := cm_yes rfl
        have d3 : ar .add .i64 (xt.size : Int) 2 = ((xt.size + 2 : Nat) : Int) := wrap_nat (by omega)
        have d4 : cm .eql ((xt.size + 2 : Nat) : Int) ((xt.size + 2 : Nat) : Int) = true := cm_yes rfl
        have d5 : cm .eql (V : Int) V = true := cm_yes rfl
        have d6 : eqK [.int .i64, .str, .int .i64] [.int .i64 xk, .string xt, .int .i64 ((0 : Nat) : Int)] [.int .i64 xk, .string xt, .int .i64 0] = some true := by
          simp [eqK, eqL, d0]
        generalize hv2 : osV ([⟨xk, xt, 0⟩] : List Tok).length y2 = v2 at *
        generalize hv3 : osV ([⟨xk, xt, 0⟩, ⟨zk, zt, xt.size + 2⟩] : List Tok).length y3 = v3 at *
        have e1 : cm .eql (xt.size : Int) 1 = true := cm_yes (by omega)
        obtain ⟨c, hc⟩ : ∃ c, Bl xt = [c] := by
          have := bl_len xt
          rw [hl1] at this
          exact List.length_eq_one_iff.1 this
        have hix : xt[(0 : Int).toNat]? = some c := by
          have h0 : xt.data[0]? = some c := by
            have := congrArg (fun l => l[0]?) hc
            simpa [Bl] using this
          show xt[0]? = some c
          rw [← h0]; rfl
        have hlc := lex (c := c) (by rw [← hc]; exact wx)
        have hwr : IntKind.i32.wrap (c.toNat : Int) = c.toNat := i32_wrap (by omega)
        have hlet := letter_S (IntKind.i32.wrap (c.toNat : Int))
        rw [hwr] at hlet
        subst hk
        rw [hlc.2.1 rfl, ← hwr] at hlet
        repeat (first | refine C.seq ?_ | refine C.region ?_ | refine L.nil ?_ | refine D.seq ?_ | refine L.move (k := ?_) | refine L.assign (k := ?_) | refine L.cm (c := ?_) | refine L.ar (c := ?_) | refine L.fieldAddr (c := ?_) | refine L.load1 0 (c := ?_) | refine L.load1 1 (c := ?_) | refine L.load1 2 (c := ?_) | refine L.load1 3 (c := ?_) | refine L.load1 4 (c := ?_) | refine L.loadA 0 (c := ?_) | refine L.loadA 1 (c := ?_) | refine L.loadA 2 (c := ?_) | refine L.loadA 3 (c := ?_) | refine L.loadA 4 (c := ?_) | refine L.storeV 0 (c := ?_) | refine L.storeV 1 (c := ?_) | refine L.storeV 2 (c := ?_) | refine L.storeV 3 (c := ?_) | refine L.storeV 4 (c := ?_) | refine L.extract (c := ?_) | refine L.build (c := ?_) | refine L.alloc (c := fun _ => ?_) | refine L.box (c := fun _ => ?_) | refine L.nilCheck (k := ?_) | refine C.yes (h1 := ?_) | refine C.no (h1 := ?_) | refine L.pickT (k := ?_) | refine L.pickF (k := ?_) | refine L.want (k := ?_) | refine L.pass (k := ?_) | refine L.not (c := ?_) | refine L.lenS (c := ?_) | refine L.strNe (c := ?_) | refine L.strEq (c := ?_) | refine L.lenV (c := ?_) | refine C.block ?_ | refine D.blkNormal ?_ | refine C.ret ?_ | refine D.thenRet ?_ | refine D.blkRet ?_ | refine C.exit ?_ | refine D.thenExit ?_ | refine D.blkExit ?_ | refine D.blkOther (h := ?_) | refine C.skip ?_ | refine L.convI (c := ?_) | refine L.makeMap (c := fun _ => ?_) | refine D.any ?_ | refine D.seqR (h := ?_) | refine L.eqA (c := ?_) | refine L.neA (c := ?_) | refine L.funNil (c := ?_) | refine L.eqB (c := ?_) | refine L.neB (c := ?_) | refine L.passU (k := ?_) | refine L.makeFunc (k := ?_) | refine L.buildS (c := fun _ => ?_) | exact D.endsQ | refine QL.fin ?_ | refine C.quiet (h := ?_) | refine C.mixed (h := ?_) | refine QW.fin (h := ?_) | refine QW.load 0 (k := ?_) | refine QW.load 1 (k := ?_) | refine QW.load 2 (k := ?_) | refine QW.load 3 (k := ?_) | refine QW.load 4 (k := ?_) | refine QW.load 5 (k := ?_) | refine QW.loadA 0 (k := ?_) | refine QW.loadA 1 (k := ?_) | refine QW.loadA 2 (k := ?_) | refine QW.loadA 3 (k := ?_) | refine QW.loadA 4 (k := ?_) | refine QW.loadA 5 (k := ?_) | refine QW.store 0 (k := ?_) | refine QW.store 1 (k := ?_) | refine QW.store 2 (k := ?_) | refine QW.store 3 (k := ?_) | refine QW.store 4 (k := ?_) | refine QW.store 5 (k := ?_) | (refine QW.free (v := ?_) (by exact rfl) (by exact rfl) (fun w1 hk1 => ?_) ?_; rotate_left) | refine N.fin (h := ?_) | refine L.assertY (c := ?_) | refine L.assertN (c := ?_) | refine N.one (i := 0) (h := ?_) | refine N.one (i := 1) (h := ?_) | refine N.one (i := 2) (h := ?_) | refine N.one (i := 3) (h := ?_) | refine N.one (i := 4) (h := ?_) | refine N.one (i := 5) (h := ?_) | refine N.one (i := 6) (h := ?_) | refine N.one (i := 7) (h := ?_) | refine N.one (i := 8) (h := ?_) | refine N.one (i := 9) (h := ?_) | refine N.one (i := 10) (h := ?_) | refine N.one (i := 11) (h := ?_) | (refine QL.step (v := ?_) (by exact rfl) (by exact rfl) ?_ ?_; rotate_left) | (refine L.callQ hn1 (k := ?_)) | (refine L.callQ hn2 (k := ?_)) | refine L.strAdd sa1 (c := ?_) | refine L.lenR s2 (c := ?_) | refine L.lenR s3 (c := ?_) | refine L.indexR s2 hk2 (c := ?_) | refine L.indexR s3 hk3 (c := ?_) | refine L.indexR s3 hk4 (c := ?_) | refine L.loadOA o2 (i := 0) (ho := by exact rfl) (hi := hh2) (hcs := hcs2) (c := ?_) | refine L.loadF o3 u01 (c := ?_) | refine L.loadF o3 u11 (c := ?_) | refine L.loadF o3 u10 (c := ?_) | refine L.loadF o3 u12 (c := ?_) | refine L.indexS (h0 := by decide) (hv := hix) (c := ?_) | refine L.callQ hlet (k := ?_))
        exact D.ret (vs := [_]) (RV.tmp rfl RV.nil) (fun w' hw => Post.mkD 2 (hback _ _ hw) rfl ⟨rfl, rfl⟩)
end Go.Proofs.Ytbcbldjnbibigaa
