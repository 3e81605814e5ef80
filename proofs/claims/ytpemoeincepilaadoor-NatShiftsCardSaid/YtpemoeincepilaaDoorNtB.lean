/- nat: Bits, Low, Bit, Fit: what they answer, told by numbers. -/
import Derived.Test.YtpemoeincepilaaDoorNtA
set_option linter.unusedVariables false
set_option linter.unusedSimpArgs false
namespace Go.Proofs.YtpemoeincepilaaDoor.Nt
open Go Go.RowKit SL
attribute [local irreducible] SL.L SL.C SL.D SL.N SL.H SL.QL SL.QW SL.QP

theorem i64w {n : Nat} (h : n < 9223372036854775808) : IntKind.i64.wrap (n : Int) = n := by rw [IntKind.wrap_i64]; omega
theorem i64_addL {a b : Nat} (h : a + b < 9223372036854775808) : ar .add .i64 (a : Int) (b : Int) = ((a + b : Nat) : Int) := i64w h
theorem i64_mulL {a b : Nat} (h : a * b < 9223372036854775808) : ar .mul .i64 (a : Int) (b : Int) = ((a * b : Nat) : Int) := by
  show IntKind.i64.wrap _ = _
  rw [← Int.natCast_mul]; exact i64w h
theorem i64_subL {a b : Nat} (h : b ≤ a) (h2 : a < 9223372036854775808) : ar .sub .i64 (a : Int) (b : Int) = ((a - b : Nat) : Int) := by
  show IntKind.i64.wrap _ = _
  rw [show (a : Int) - b = ((a - b : Nat) : Int) by omega]; exact i64w (by omega)
/-- The trimmed part reads as the trimmed limbs. -/
theorem can_take {l : List Nat} (ho : okL l) : can (lv l) = l.take (can (lv l)).length := by
  rcases trim_at ho with ⟨n, hn, e⟩
  rw [← e, List.length_take, Nat.min_eq_left hn]
theorem can_le {l : List Nat} (ho : okL l) : (can (lv l)).length ≤ l.length := can_len.2 (lv_lt ho)
theorem trim_rd {l : List Nat} (ho : okL l) {v v' : Value} (s' : SlV v' (can (lv l)).length) (hb' : 0 < (can (lv l)).length → sB v' = sB v ∧ sO v' = sO v) {w1 : World} {A : List Nat} (h1 : RdN w1 A v l) : RdN w1 A v' (can (lv l)) := by
  refine (Rd.sub (lo := 0) (hi := (can (lv l)).length) (sz := 1) h1 (can_le ho) (by simpa using s') (fun h => ?_) (fun i u hu => ?_))
  · obtain ⟨q1, q2⟩ := hb' h
    exact ⟨q1, by rw [q2]; simp⟩
  · rw [can_take ho, u64s_take] at hu
    rw [Nat.zero_mul, Nat.zero_add]
    exact take_get hu
/-- Bits. -/
theorem bits_S (l : List Nat) (ho : okL l) (hl : l.length ≤ 1000000) (v : Value) : Ctr Tryd.prog 15 [v] [] (fun w => RdN w [] v l) (is (.int .i64 (bitsN (lv l) : Int)) []) := by
  have hT := rtrim_S l ho hl v
  have hle := can_le ho
  refine Ctr.enter Tryd.func15 Tryd.ntmps15 rfl rfl (fun w hr => ?_)
  repeat (first | refine C.seq ?_ | refine C.region ?_ | refine L.nil ?_ | refine D.seq ?_ | refine L.move (k := ?_) | refine L.assign (k := ?_) | refine L.cm (c := ?_) | refine L.ar (c := ?_) | refine L.fieldAddr (c := ?_) | refine L.load1 0 (c := ?_) | refine L.load1 1 (c := ?_) | refine L.load1 2 (c := ?_) | refine L.load1 3 (c := ?_) | refine L.load1 4 (c := ?_) | refine L.loadA 0 (c := ?_) | refine L.loadA 1 (c := ?_) | refine L.loadA 2 (c := ?_) | refine L.loadA 3 (c := ?_) | refine L.loadA 4 (c := ?_) | refine L.storeV 0 (c := ?_) | refine L.storeV 1 (c := ?_) | refine L.storeV 2 (c := ?_) | refine L.storeV 3 (c := ?_) | refine L.storeV 4 (c := ?_) | refine L.extract (c := ?_) | refine L.build (c := ?_) | refine L.alloc (c := fun _ => ?_) | refine L.box (c := fun _ => ?_) | refine L.nilCheck (k := ?_) | refine C.yes (h1 := ?_) | refine C.no (h1 := ?_) | refine L.pickT (k := ?_) | refine L.pickF (k := ?_) | refine L.want (k := ?_) | refine L.pass (k := ?_) | refine L.not (c := ?_) | refine L.lenS (c := ?_) | refine L.strNe (c := ?_) | refine L.strEq (c := ?_) | refine L.lenV (c := ?_) | refine C.block ?_ | refine D.blkNormal ?_ | refine C.ret ?_ | refine D.thenRet ?_ | refine D.blkRet ?_ | refine C.exit ?_ | refine D.thenExit ?_ | refine D.blkExit ?_ | refine D.blkOther (h := ?_) | refine C.skip ?_ | refine L.convI (c := ?_) | refine L.makeMap (c := fun _ => ?_) | refine D.any ?_ | refine D.seqR (h := ?_) | refine L.eqA (c := ?_) | refine L.neA (c := ?_) | refine L.funNil (c := ?_) | refine L.eqB (c := ?_) | refine L.neB (c := ?_) | refine L.passU (k := ?_) | refine L.makeFunc (k := ?_) | refine L.buildS (c := fun _ => ?_) | exact D.endsQ | refine QL.fin ?_ | refine N.fin (h := ?_) | refine L.assertY (c := ?_) | refine L.assertN (c := ?_) | refine N.one (i := 0) (h := ?_) | refine N.one (i := 1) (h := ?_) | refine N.one (i := 2) (h := ?_) | refine N.one (i := 3) (h := ?_) | refine N.one (i := 4) (h := ?_) | refine N.one (i := 5) (h := ?_) | refine N.one (i := 6) (h := ?_) | refine N.one (i := 7) (h := ?_) | refine N.one (i := 8) (h := ?_) | refine N.one (i := 9) (h := ?_) | refine N.one (i := 10) (h := ?_) | refine N.one (i := 11) (h := ?_) | (refine QL.step (v := ?_) (by exact rfl) (by exact rfl) ?_ ?_; rotate_left))
  refine L.callP [] hT (hpre := fun w hw => hr.at hw) (k := ?_)
  rintro v' B ⟨v1, hu, rfl, s', hb'⟩
  obtain rfl : v' = v1 := hu
  rw [List.nil_append]
  have r' : RdN w [] v' (can (lv l)) := trim_rd ho s' hb' hr
  rcases Nat.eq_zero_or_pos (can (lv l)).length with h0 | hp
  · have c1 : cm .eql ((can (lv l)).length : Int) 0 = true := cm_yes (by omega)
    have hb := bitsN_can_le (lv l)
    rw [show bitsN (lv l) = 0 by omega]
    repeat (first | refine C.seq ?_ | refine C.region ?_ | refine L.nil ?_ | refine D.seq ?_ | refine L.move (k := ?_) | refine L.assign (k := ?_) | refine L.cm (c := ?_) | refine L.ar (c := ?_) | refine L.fieldAddr (c := ?_) | refine L.load1 0 (c := ?_) | refine L.load1 1 (c := ?_) | refine L.load1 2 (c := ?_) | refine L.load1 3 (c := ?_) | refine L.load1 4 (c := ?_) | refine L.loadA 0 (c := ?_) | refine L.loadA 1 (c := ?_) | refine L.loadA 2 (c := ?_) | refine L.loadA 3 (c := ?_) | refine L.loadA 4 (c := ?_) | refine L.storeV 0 (c := ?_) | refine L.storeV 1 (c := ?_) | refine L.storeV 2 (c := ?_) | refine L.storeV 3 (c := ?_) | refine L.storeV 4 (c := ?_) | refine L.extract (c := ?_) | refine L.build (c := ?_) | refine L.alloc (c := fun _ => ?_) | refine L.box (c := fun _ => ?_) | refine L.nilCheck (k := ?_) | refine C.yes (h1 := ?_) | refine C.no (h1 := ?_) | refine L.pickT (k := ?_) | refine L.pickF (k := ?_) | refine L.want (k := ?_) | refine L.pass (k := ?_) | refine L.not (c := ?_) | refine L.lenS (c := ?_) | refine L.strNe (c := ?_) | refine L.strEq (c := ?_) | refine L.lenV (c := ?_) | refine C.block ?_ | refine D.blkNormal ?_ | refine C.ret ?_ | refine D.thenRet ?_ | refine D.blkRet ?_ | refine C.exit ?_ | refine D.thenExit ?_ | refine D.blkExit ?_ | refine D.blkOther (h := ?_) | refine C.skip ?_ | refine L.convI (c := ?_) | refine L.makeMap (c := fun _ => ?_) | refine D.any ?_ | refine D.seqR (h := ?_) | refine L.eqA (c := ?_) | refine L.neA (c := ?_) | refine L.funNil (c := ?_) | refine L.eqB (c := ?_) | refine L.neB (c := ?_) | refine L.passU (k := ?_) | refine L.makeFunc (k := ?_) | refine L.buildS (c := fun _ => ?_) | exact D.endsQ | refine QL.fin ?_ | refine N.fin (h := ?_) | refine L.assertY (c := ?_) | refine L.assertN (c := ?_) | refine N.one (i := 0) (h := ?_) | refine N.one (i := 1) (h := ?_) | refine N.one (i := 2) (h := ?_) | refine N.one (i := 3) (h := ?_) | refine N.one (i := 4) (h := ?_) | refine N.one (i := 5) (h := ?_) | refine N.one (i := 6) (h := ?_) | refine N.one (i := 7) (h := ?_) | refine N.one (i := 8) (h := ?_) | refine N.one (i := 9) (h := ?_) | refine N.one (i := 10) (h := ?_) | refine N.one (i := 11) (h := ?_) | (refine QL.step (v := ?_) (by exact rfl) (by exact rfl) ?_ ?_; rotate_left) | refine L.lenR s' (c := ?_))
    (refine D.ret (vs := [_]) (RV.tmp rfl RV.nil) ?_; intro w' hw; exact Post.mk (is := []) hw List.nodup_nil rfl ⟨rfl, rfl⟩)
  · obtain ⟨k, hk⟩ : ∃ k, (can (lv l)).length = k + 1 := ⟨(can (lv l)).length - 1, by omega⟩
    have hx := get_lmb (l := can (lv l)) (i := k) (by omega)
    obtain ⟨b1, b2, b3⟩ := bits_can hk hx
    have hg := u64s_get hx
    have o0 := r'.2 hp
    have hx2 : bitsN (lmb (can (lv l)) k) ≤ 64 := bitsN_iff.2 b3
    have hW := wbits_S _ b3
    generalize lmb (can (lv l)) k = x at *
    have c1 : cm .eql ((can (lv l)).length : Int) 0 = false := cm_no (by omega)
    have c2 : ar .sub .i64 ((can (lv l)).length : Int) 1 = (k : Int) := by rw [hk]; exact i64_sub (a := k + 1) (b := 1) (by omega) (by omega)
    have c3 : ar .mul .i64 64 (k : Int) = ((64 * k : Nat) : Int) := i64_mulL (a := 64) (by omega)
    have c4 : ar .add .i64 ((64 * k : Nat) : Int) (bitsN x : Int) = (bitsN (lv l) : Int) := by rw [b2]; exact i64_addL (by omega)
    have hkl : k < (can (lv l)).length := by omega
    repeat (first | refine C.seq ?_ | refine C.region ?_ | refine L.nil ?_ | refine D.seq ?_ | refine L.move (k := ?_) | refine L.assign (k := ?_) | refine L.cm (c := ?_) | refine L.ar (c := ?_) | refine L.fieldAddr (c := ?_) | refine L.load1 0 (c := ?_) | refine L.load1 1 (c := ?_) | refine L.load1 2 (c := ?_) | refine L.load1 3 (c := ?_) | refine L.load1 4 (c := ?_) | refine L.loadA 0 (c := ?_) | refine L.loadA 1 (c := ?_) | refine L.loadA 2 (c := ?_) | refine L.loadA 3 (c := ?_) | refine L.loadA 4 (c := ?_) | refine L.storeV 0 (c := ?_) | refine L.storeV 1 (c := ?_) | refine L.storeV 2 (c := ?_) | refine L.storeV 3 (c := ?_) | refine L.storeV 4 (c := ?_) | refine L.extract (c := ?_) | refine L.build (c := ?_) | refine L.alloc (c := fun _ => ?_) | refine L.box (c := fun _ => ?_) | refine L.nilCheck (k := ?_) | refine C.yes (h1 := ?_) | refine C.no (h1 := ?_) | refine L.pickT (k := ?_) | refine L.pickF (k := ?_) | refine L.want (k := ?_) | refine L.pass (k := ?_) | refine L.not (c := ?_) | refine L.lenS (c := ?_) | refine L.strNe (c := ?_) | refine L.strEq (c := ?_) | refine L.lenV (c := ?_) | refine C.block ?_ | refine D.blkNormal ?_ | refine C.ret ?_ | refine D.thenRet ?_ | refine D.blkRet ?_ | refine C.exit ?_ | refine D.thenExit ?_ | refine D.blkExit ?_ | refine D.blkOther (h := ?_) | refine C.skip ?_ | refine L.convI (c := ?_) | refine L.makeMap (c := fun _ => ?_) | refine D.any ?_ | refine D.seqR (h := ?_) | refine L.eqA (c := ?_) | refine L.neA (c := ?_) | refine L.funNil (c := ?_) | refine L.eqB (c := ?_) | refine L.neB (c := ?_) | refine L.passU (k := ?_) | refine L.makeFunc (k := ?_) | refine L.buildS (c := fun _ => ?_) | exact D.endsQ | refine QL.fin ?_ | refine N.fin (h := ?_) | refine L.assertY (c := ?_) | refine L.assertN (c := ?_) | refine N.one (i := 0) (h := ?_) | refine N.one (i := 1) (h := ?_) | refine N.one (i := 2) (h := ?_) | refine N.one (i := 3) (h := ?_) | refine N.one (i := 4) (h := ?_) | refine N.one (i := 5) (h := ?_) | refine N.one (i := 6) (h := ?_) | refine N.one (i := 7) (h := ?_) | refine N.one (i := 8) (h := ?_) | refine N.one (i := 9) (h := ?_) | refine N.one (i := 10) (h := ?_) | refine N.one (i := 11) (h := ?_) | (refine QL.step (v := ?_) (by exact rfl) (by exact rfl) ?_ ?_; rotate_left) | refine L.lenR s' (c := ?_) | refine L.indexR s' hkl (c := ?_) | refine L.loadF o0 hg (ho := by simp) (c := ?_) | refine L.callQ (hW) (k := ?_))
    (refine D.ret (vs := [_]) (RV.tmp rfl RV.nil) ?_; intro w' hw; exact Post.mk (is := []) hw List.nodup_nil rfl ⟨rfl, rfl⟩)
end Go.Proofs.YtpemoeincepilaaDoor.Nt
