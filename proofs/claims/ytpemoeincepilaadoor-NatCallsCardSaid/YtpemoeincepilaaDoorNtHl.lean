/- Helpers of the laws of chapter 2: keysmithref01.Bits; Low, Bit, Natural told anew; plain facts of numbers moved up. Conditions: as told. -/
import Derived.Test.YtpemoeincepilaaDoorNtZ
set_option linter.unusedVariables false
set_option linter.unusedSimpArgs false
namespace Go.Proofs.YtpemoeincepilaaDoor.Nt
open Go Go.RowKit SL
attribute [local irreducible] SL.L SL.C SL.D SL.N SL.H SL.QL SL.QW SL.QP

theorem lv_up (k : Nat) (a : List Nat) : lv (List.replicate k 0 ++ a) = lv a * 18446744073709551616 ^ k := by
  rw [lv_app, lv_zero (fun x hx => List.eq_of_mem_replicate hx), List.length_replicate, Nat.zero_add, Nat.mul_comm]
theorem okL_up {a : List Nat} (k : Nat) (ha : okL a) : okL (List.replicate k 0 ++ a) := okL_app (fun x hx => by rw [List.eq_of_mem_replicate hx]; omega) ha
theorem sm_pow {k m n : Nat} (h : sm m n) : sm (m + k) (n * 18446744073709551616 ^ k) := by
  unfold sm at *
  rw [Nat.pow_add]
  exact Nat.mul_lt_mul_of_pos_right h (pow_posB k)
theorem bits_sm {k n : Nat} (h : sm k n) : bitsN n ≤ 64 * k := Nat.le_trans (bitsN_can_le n) (Nat.mul_le_mul_left _ (sm_len h))
theorem natB (l m : List Nat) (x : Bool) (hl : nt l) (hm : nt m) (hx : decide (lv l = lv m) = x) (v u : Value) : Ctr Tryd.prog 13 [v, u] [] (fun w => RdN w [] v l ∧ RdN w [] u m) (is (.bool x) []) := by
  subst hx; exact natural_S l m hl.1 hm.1 (by have := hl.2; omega) (by have := hm.2; omega) v u
/-- keysmithref01.Bits: one by one. -/
theorem rbits_S (a : Nat) (ha : a < 18446744073709551616) : Ctr Tryd.prog 25 [.int .u64 (a : Int)] [] tt (is (.int .i64 (bitsN a : Int)) []) := by
  refine Ctr.enter Tryd.func25 Tryd.ntmps25 rfl rfl (fun w _ => ?_)
  have hb : bitsN a ≤ 64 := bitsN_iff.2 (show a < 2 ^ 64 from ha)
  repeat (first | refine C.seq ?_ | refine C.region ?_ | refine L.nil ?_ | refine D.seq ?_ | refine L.move (k := ?_) | refine L.assign (k := ?_) | refine L.cm (c := ?_) | refine L.ar (c := ?_) | refine L.fieldAddr (c := ?_) | refine L.load1 0 (c := ?_) | refine L.load1 1 (c := ?_) | refine L.load1 2 (c := ?_) | refine L.load1 3 (c := ?_) | refine L.load1 4 (c := ?_) | refine L.loadA 0 (c := ?_) | refine L.loadA 1 (c := ?_) | refine L.loadA 2 (c := ?_) | refine L.loadA 3 (c := ?_) | refine L.loadA 4 (c := ?_) | refine L.storeV 0 (c := ?_) | refine L.storeV 1 (c := ?_) | refine L.storeV 2 (c := ?_) | refine L.storeV 3 (c := ?_) | refine L.storeV 4 (c := ?_) | refine L.extract (c := ?_) | refine L.build (c := ?_) | refine L.alloc (c := fun _ => ?_) | refine L.box (c := fun _ => ?_) | refine L.nilCheck (k := ?_) | refine C.yes (h1 := ?_) | refine C.no (h1 := ?_) | refine L.pickT (k := ?_) | refine L.pickF (k := ?_) | refine L.want (k := ?_) | refine L.pass (k := ?_) | refine L.not (c := ?_) | refine L.lenS (c := ?_) | refine L.strNe (c := ?_) | refine L.strEq (c := ?_) | refine L.lenV (c := ?_) | refine C.block ?_ | refine D.blkNormal ?_ | refine C.ret ?_ | refine D.thenRet ?_ | refine D.blkRet ?_ | refine C.exit ?_ | refine D.thenExit ?_ | refine D.blkExit ?_ | refine D.blkOther (h := ?_) | refine C.skip ?_ | refine L.convI (c := ?_) | refine L.makeMap (c := fun _ => ?_) | refine D.any ?_ | refine D.seqR (h := ?_) | refine L.eqA (c := ?_) | refine L.neA (c := ?_) | refine L.funNil (c := ?_) | refine L.eqB (c := ?_) | refine L.neB (c := ?_) | refine L.passU (k := ?_) | refine L.makeFunc (k := ?_) | refine L.buildS (c := fun _ => ?_) | exact D.endsQ | refine QL.fin ?_ | refine N.fin (h := ?_) | refine L.assertY (c := ?_) | refine L.assertN (c := ?_) | refine N.one (i := 0) (h := ?_) | refine N.one (i := 1) (h := ?_) | refine N.one (i := 2) (h := ?_) | refine N.one (i := 3) (h := ?_) | refine N.one (i := 4) (h := ?_) | refine N.one (i := 5) (h := ?_) | refine N.one (i := 6) (h := ?_) | refine N.one (i := 7) (h := ?_) | refine N.one (i := 8) (h := ?_) | refine N.one (i := 9) (h := ?_) | refine N.one (i := 10) (h := ?_) | refine N.one (i := 11) (h := ?_) | (refine QL.step (v := ?_) (by exact rfl) (by exact rfl) ?_ ?_; rotate_left))
  refine C.loop (α := Nat) (fun n => n ≤ bitsN a) (fun n => [(0, .int .u64 ((a / 2 ^ n : Nat) : Int)), (3, .int .i64 (n : Int))]) (fun _ => []) (fun n => bitsN a - n) 0 (fun a1 w hs => hs.lessE rfl (lk_cons (by show _ = some (Value.int .u64 ((a / 1 : Nat) : Int)); rw [Nat.div_one]; rfl) (lk_cons rfl (fun _ _ h => lk_nil h)))) (Nat.zero_le _) ?_
  intro n hn
  by_cases hz : a / 2 ^ n = 0
  · have c1 : cm .gtr ((a / 2 ^ n : Nat) : Int) 0 = false := by rw [hz]; rfl
    have he : n = bitsN a := by
      have := bitsN_iff.2 ((Nat.div_eq_zero_iff_lt (Nat.two_pow_pos n)).1 hz)
      omega
    rw [← he]
    repeat (first | refine C.seq ?_ | refine C.region ?_ | refine L.nil ?_ | refine D.seq ?_ | refine L.move (k := ?_) | refine L.assign (k := ?_) | refine L.cm (c := ?_) | refine L.ar (c := ?_) | refine L.fieldAddr (c := ?_) | refine L.load1 0 (c := ?_) | refine L.load1 1 (c := ?_) | refine L.load1 2 (c := ?_) | refine L.load1 3 (c := ?_) | refine L.load1 4 (c := ?_) | refine L.loadA 0 (c := ?_) | refine L.loadA 1 (c := ?_) | refine L.loadA 2 (c := ?_) | refine L.loadA 3 (c := ?_) | refine L.loadA 4 (c := ?_) | refine L.storeV 0 (c := ?_) | refine L.storeV 1 (c := ?_) | refine L.storeV 2 (c := ?_) | refine L.storeV 3 (c := ?_) | refine L.storeV 4 (c := ?_) | refine L.extract (c := ?_) | refine L.build (c := ?_) | refine L.alloc (c := fun _ => ?_) | refine L.box (c := fun _ => ?_) | refine L.nilCheck (k := ?_) | refine C.yes (h1 := ?_) | refine C.no (h1 := ?_) | refine L.pickT (k := ?_) | refine L.pickF (k := ?_) | refine L.want (k := ?_) | refine L.pass (k := ?_) | refine L.not (c := ?_) | refine L.lenS (c := ?_) | refine L.strNe (c := ?_) | refine L.strEq (c := ?_) | refine L.lenV (c := ?_) | refine C.block ?_ | refine D.blkNormal ?_ | refine C.ret ?_ | refine D.thenRet ?_ | refine D.blkRet ?_ | refine C.exit ?_ | refine D.thenExit ?_ | refine D.blkExit ?_ | refine D.blkOther (h := ?_) | refine C.skip ?_ | refine L.convI (c := ?_) | refine L.makeMap (c := fun _ => ?_) | refine D.any ?_ | refine D.seqR (h := ?_) | refine L.eqA (c := ?_) | refine L.neA (c := ?_) | refine L.funNil (c := ?_) | refine L.eqB (c := ?_) | refine L.neB (c := ?_) | refine L.passU (k := ?_) | refine L.makeFunc (k := ?_) | refine L.buildS (c := fun _ => ?_) | exact D.endsQ | refine QL.fin ?_ | refine N.fin (h := ?_) | refine L.assertY (c := ?_) | refine L.assertN (c := ?_) | refine N.one (i := 0) (h := ?_) | refine N.one (i := 1) (h := ?_) | refine N.one (i := 2) (h := ?_) | refine N.one (i := 3) (h := ?_) | refine N.one (i := 4) (h := ?_) | refine N.one (i := 5) (h := ?_) | refine N.one (i := 6) (h := ?_) | refine N.one (i := 7) (h := ?_) | refine N.one (i := 8) (h := ?_) | refine N.one (i := 9) (h := ?_) | refine N.one (i := 10) (h := ?_) | refine N.one (i := 11) (h := ?_) | (refine QL.step (v := ?_) (by exact rfl) (by exact rfl) ?_ ?_; rotate_left))
    (refine D.ret (vs := [_]) (RV.tmp rfl RV.nil) ?_; intro w' hw; exact Post.mk (is := []) hw List.nodup_nil rfl ⟨rfl, rfl⟩)
  · have c1 : cm .gtr ((a / 2 ^ n : Nat) : Int) 0 = true := (cm_gtN (a / 2 ^ n) 0).trans (decide_eq_true (Nat.pos_of_ne_zero hz))
    have hlt : n < bitsN a := by
      rcases Nat.lt_or_ge n (bitsN a) with h | h
      · exact h
      · exact absurd ((Nat.div_eq_zero_iff_lt (Nat.two_pow_pos n)).2 (bitsN_iff.1 h)) hz
    have c2 : ar .add .i64 (n : Int) 1 = ((n + 1 : Nat) : Int) := i64_add (b := 1) (by omega)
    have c3 : ar .shr .u64 ((a / 2 ^ n : Nat) : Int) 1 = ((a / 2 ^ (n + 1) : Nat) : Int) := by
      have := ar_shrN (a / 2 ^ n) 1 (by omega)
      rw [Nat.div_div_eq_div_mul, ← Nat.pow_succ] at this; exact this
    repeat (first | refine C.seq ?_ | refine C.region ?_ | refine L.nil ?_ | refine D.seq ?_ | refine L.move (k := ?_) | refine L.assign (k := ?_) | refine L.cm (c := ?_) | refine L.ar (c := ?_) | refine L.fieldAddr (c := ?_) | refine L.load1 0 (c := ?_) | refine L.load1 1 (c := ?_) | refine L.load1 2 (c := ?_) | refine L.load1 3 (c := ?_) | refine L.load1 4 (c := ?_) | refine L.loadA 0 (c := ?_) | refine L.loadA 1 (c := ?_) | refine L.loadA 2 (c := ?_) | refine L.loadA 3 (c := ?_) | refine L.loadA 4 (c := ?_) | refine L.storeV 0 (c := ?_) | refine L.storeV 1 (c := ?_) | refine L.storeV 2 (c := ?_) | refine L.storeV 3 (c := ?_) | refine L.storeV 4 (c := ?_) | refine L.extract (c := ?_) | refine L.build (c := ?_) | refine L.alloc (c := fun _ => ?_) | refine L.box (c := fun _ => ?_) | refine L.nilCheck (k := ?_) | refine C.yes (h1 := ?_) | refine C.no (h1 := ?_) | refine L.pickT (k := ?_) | refine L.pickF (k := ?_) | refine L.want (k := ?_) | refine L.pass (k := ?_) | refine L.not (c := ?_) | refine L.lenS (c := ?_) | refine L.strNe (c := ?_) | refine L.strEq (c := ?_) | refine L.lenV (c := ?_) | refine C.block ?_ | refine D.blkNormal ?_ | refine C.ret ?_ | refine D.thenRet ?_ | refine D.blkRet ?_ | refine C.exit ?_ | refine D.thenExit ?_ | refine D.blkExit ?_ | refine D.blkOther (h := ?_) | refine C.skip ?_ | refine L.convI (c := ?_) | refine L.makeMap (c := fun _ => ?_) | refine D.any ?_ | refine D.seqR (h := ?_) | refine L.eqA (c := ?_) | refine L.neA (c := ?_) | refine L.funNil (c := ?_) | refine L.eqB (c := ?_) | refine L.neB (c := ?_) | refine L.passU (k := ?_) | refine L.makeFunc (k := ?_) | refine L.buildS (c := fun _ => ?_) | exact D.endsQ | refine QL.fin ?_ | refine N.fin (h := ?_) | refine L.assertY (c := ?_) | refine L.assertN (c := ?_) | refine N.one (i := 0) (h := ?_) | refine N.one (i := 1) (h := ?_) | refine N.one (i := 2) (h := ?_) | refine N.one (i := 3) (h := ?_) | refine N.one (i := 4) (h := ?_) | refine N.one (i := 5) (h := ?_) | refine N.one (i := 6) (h := ?_) | refine N.one (i := 7) (h := ?_) | refine N.one (i := 8) (h := ?_) | refine N.one (i := 9) (h := ?_) | refine N.one (i := 10) (h := ?_) | refine N.one (i := 11) (h := ?_) | (refine QL.step (v := ?_) (by exact rfl) (by exact rfl) ?_ ?_; rotate_left))
    exact D.then_ fun a1 w1 hs => ⟨n + 1, hlt, by omega, hs.lessE rfl (lk_cons rfl (lk_cons rfl (fun _ _ h => lk_nil h)))⟩
theorem lowN (l : List Nat) (k : Int) (x : Nat) (hl : nt l) (hx : lv (l.take (lowK l k)) = x) (v : Value) : Ctr Tryd.prog 20 [v, .int .i64 k] [] (fun w => RdN w [] v l) (natR x) := by
  subst hx; exact low_S l hl v k
theorem bitT (l : List Nat) (i : Int) (x : Bool) (hl : nt l) (hi : I64' i) (hx : (decide (0 ≤ i) && (lv l).testBit i.toNat) = x) (v : Value) : Ctr Tryd.prog 23 [v, .int .i64 i] [] (fun w => RdN w [] v l) (is (.bool x) []) := by
  subst hx; exact bit_S l hl v i hi
theorem low_up {a : List Nat} {k : Nat} : lv (a.take (min k a.length)) + lv (List.replicate k 0 ++ a.drop (min k a.length)) = lv a := by
  rcases Nat.lt_or_ge k a.length with h | h
  · rw [Nat.min_eq_left (by omega), lv_up]
    have := lo_hi a k
    unfold lo hi at this
    rw [this, Nat.mul_comm (lv (a.drop k))]
  · rw [Nat.min_eq_right h, List.take_length, List.drop_length, List.append_nil, lv_zero (fun x hx => List.eq_of_mem_replicate hx)]; rfl
theorem lv_pad (a : List Nat) (k : Nat) : lv (a ++ List.replicate k 0) = lv a := by
  rw [lv_app, lv_zero (fun x hx => List.eq_of_mem_replicate hx)]; simp
end Go.Proofs.YtpemoeincepilaaDoor.Nt
