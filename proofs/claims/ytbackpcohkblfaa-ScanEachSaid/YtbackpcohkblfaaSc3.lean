/- Runes of a row of bytes; what digits tell; scan's small methods. -/
import Derived.Test.YtbackpcohkblfaaSc2
set_option linter.unusedVariables false
set_option linter.unusedSimpArgs false
namespace Go.Proofs.Ytbackpcohkblfaa
open Go Go.RowKit SL
attribute [local irreducible] SL.L SL.C SL.D SL.N SL.H SL.QL SL.QW

abbrev Bl (s : ByteArray) : List UInt8 := s.data.toList
def bt (l : List UInt8) (k : Nat) : Nat := (l.getD k 0).toNat
def ct (l : List UInt8) (k : Nat) : Bool := decide (k < l.length) && bt l k / 64 == 2
/-- The first rune of a row of bytes, and how many bytes it has. -/
def decL (l : List UInt8) : Nat × Nat :=
  if bt l 0 < 128 then (bt l 0, 1)
  else if bt l 0 / 32 == 6 && ct l 1 then
    (if (bt l 0 % 32) * 64 + bt l 1 % 64 ≥ 128 then ((bt l 0 % 32) * 64 + bt l 1 % 64, 2) else (65533, 1))
  else if bt l 0 / 16 == 14 && ct l 1 && ct l 2 then
    (if decide ((bt l 0 % 16) * 4096 + (bt l 1 % 64) * 64 + bt l 2 % 64 ≥ 2048) && Utf8.valid ((bt l 0 % 16) * 4096 + (bt l 1 % 64) * 64 + bt l 2 % 64 : Nat) then ((bt l 0 % 16) * 4096 + (bt l 1 % 64) * 64 + bt l 2 % 64, 3) else (65533, 1))
  else if bt l 0 / 8 == 30 && ct l 1 && ct l 2 && ct l 3 then
    (if decide ((bt l 0 % 8) * 262144 + (bt l 1 % 64) * 4096 + (bt l 2 % 64) * 64 + bt l 3 % 64 ≥ 65536) && Utf8.valid ((bt l 0 % 8) * 262144 + (bt l 1 % 64) * 4096 + (bt l 2 % 64) * 64 + bt l 3 % 64 : Nat) then
      ((bt l 0 % 8) * 262144 + (bt l 1 % 64) * 4096 + (bt l 2 % 64) * 64 + bt l 3 % 64, 4) else (65533, 1))
  else (65533, 1)
theorem bl_len (s : ByteArray) : (Bl s).length = s.size := by unfold Bl; rfl
theorem get_bt (s : ByteArray) (i k : Nat) : (s.get! (i + k)).toNat = bt ((Bl s).drop i) k := by
  unfold bt Bl
  rw [List.getD_eq_getElem?_getD, List.getElem?_drop]
  show (s.data[i + k]!).toNat = _
  rw [Array.getElem!_eq_getD, Array.getD_eq_getD_getElem?, Array.getElem?_toList]
  rfl
theorem decode_eq (s : ByteArray) (i : Nat) : Utf8.decode s i = decL ((Bl s).drop i) := by
  have hc : ∀ k, (decide (i + k < s.size) && bt ((Bl s).drop i) k / 64 == 2) = ct ((Bl s).drop i) k := fun k => by
    unfold ct
    rw [List.length_drop, bl_len]
    congr 1
    simp only [decide_eq_decide]; omega
  unfold Utf8.decode decL
  simp only [get_bt, hc]
  rfl
theorem decL_w (l : List UInt8) : 1 ≤ (decL l).2 := by
  unfold decL
  repeat' split
  all_goals simp
theorem decL_le {l : List UInt8} (h : l ≠ []) : (decL l).2 ≤ l.length := by
  have h0 : 0 < l.length := List.length_pos_iff.2 h
  unfold decL
  repeat' split
  all_goals simp_all [ct]
  all_goals omega
theorem decL_ok (l : List UInt8) : validR (decL l).1 = true := by
  have hb : ∀ k, bt l k < 256 := fun k => by unfold bt; exact UInt8.toNat_lt _
  have h0 := hb 0; have h1 := hb 1; have h2 := hb 2; have h3 := hb 3
  unfold decL
  repeat' split
  all_goals simp_all [validR, Utf8.valid]
  all_goals omega
/-- What a row of digits tells, n ahead. -/
def numL (l : List UInt8) (n : Nat) : Option Nat :=
  if h : l = [] then some n else
  if isDig (decL l).1 && decide (n ≤ (18446744073709551615 - ((decL l).1 - 48)) / 10) then numL (l.drop (decL l).2) (10 * n + ((decL l).1 - 48)) else none
termination_by l.length
decreasing_by
  rw [List.length_drop]
  have := decL_w l
  have : 0 < l.length := List.length_pos_iff.2 h
  omega
def hasP (s p : ByteArray) : Bool := decide (p.size ≤ s.size) && seq (s.extract 0 p.size) p
theorem hasP2_S (s p : ByteArray) : Ctr Try.prog 42 [.string s, .string p] [] tt (is (.bool (hasP s p)) []) := by
  have key : (cm .geq (s.size : Int) p.size = false ∧ hasP s p = false) ∨ (cm .geq (s.size : Int) p.size = true ∧ p.size ≤ s.size ∧ hasP s p = seq (s.extract 0 p.size) p) := by
    unfold hasP
    rcases Nat.lt_or_ge s.size p.size with h | h
    · exact .inl ⟨cm_ge' (by omega), by simp [Nat.not_le.2 h]⟩
    · exact .inr ⟨cm_ge (by omega), h, by simp [h]⟩
  rcases key with ⟨f1, e⟩ | ⟨f1, f2, e⟩
  all_goals
    rw [e]
    refine Ctr.enter Try.func42 Try.ntmps42 rfl rfl (fun w _ => ?_)
    repeat (first | refine C.seq ?_ | refine C.region ?_ | refine L.nil ?_ | refine D.seq ?_ | refine L.move (k := ?_) | refine L.assign (k := ?_) | refine L.cm (c := ?_) | refine L.ar (c := ?_) | refine L.fieldAddr (c := ?_) | refine L.load1 0 (c := ?_) | refine L.load1 1 (c := ?_) | refine L.load1 2 (c := ?_) | refine L.load1 3 (c := ?_) | refine L.load1 4 (c := ?_) | refine L.loadA 0 (c := ?_) | refine L.loadA 1 (c := ?_) | refine L.loadA 2 (c := ?_) | refine L.loadA 3 (c := ?_) | refine L.loadA 4 (c := ?_) | refine L.storeV 0 (c := ?_) | refine L.storeV 1 (c := ?_) | refine L.storeV 2 (c := ?_) | refine L.storeV 3 (c := ?_) | refine L.storeV 4 (c := ?_) | refine L.extract (c := ?_) | refine L.build (c := ?_) | refine L.alloc (c := fun _ => ?_) | refine L.box (c := fun _ => ?_) | refine L.nilCheck (k := ?_) | refine C.yes (h1 := ?_) | refine C.no (h1 := ?_) | refine L.pickT (k := ?_) | refine L.pickF (k := ?_) | refine L.want (k := ?_) | refine L.pass (k := ?_) | refine L.not (c := ?_) | refine L.lenS (c := ?_) | refine L.strNe (c := ?_) | refine L.strEq (c := ?_) | refine L.lenV (c := ?_) | refine C.block ?_ | refine D.blkNormal ?_ | refine C.ret ?_ | refine D.thenRet ?_ | refine D.blkRet ?_ | refine C.exit ?_ | refine D.thenExit ?_ | refine D.blkExit ?_ | refine D.blkOther (h := ?_) | refine C.skip ?_ | refine L.convI (c := ?_) | refine L.makeMap (c := fun _ => ?_) | refine D.any ?_ | refine D.seqR (h := ?_) | refine L.eqA (c := ?_) | refine L.neA (c := ?_) | refine L.funNil (c := ?_) | refine L.eqB (c := ?_) | refine L.neB (c := ?_) | refine L.passU (k := ?_) | refine L.makeFunc (k := ?_) | refine L.buildS (c := fun _ => ?_) | exact D.endsQ | refine QL.fin ?_ | refine C.quiet (h := ?_) | refine C.mixed (h := ?_) | refine QW.fin (h := ?_) | refine QW.load 0 (k := ?_) | refine QW.load 1 (k := ?_) | refine QW.load 2 (k := ?_) | refine QW.load 3 (k := ?_) | refine QW.load 4 (k := ?_) | refine QW.load 5 (k := ?_) | refine QW.loadA 0 (k := ?_) | refine QW.loadA 1 (k := ?_) | refine QW.loadA 2 (k := ?_) | refine QW.loadA 3 (k := ?_) | refine QW.loadA 4 (k := ?_) | refine QW.loadA 5 (k := ?_) | refine QW.store 0 (k := ?_) | refine QW.store 1 (k := ?_) | refine QW.store 2 (k := ?_) | refine QW.store 3 (k := ?_) | refine QW.store 4 (k := ?_) | refine QW.store 5 (k := ?_) | (refine QW.free (v := ?_) (by exact rfl) (by exact rfl) (fun w1 hk1 => ?_) ?_; rotate_left) | refine N.fin (h := ?_) | refine L.assertY (c := ?_) | refine L.assertN (c := ?_) | refine N.one (i := 0) (h := ?_) | refine N.one (i := 1) (h := ?_) | refine N.one (i := 2) (h := ?_) | refine N.one (i := 3) (h := ?_) | refine N.one (i := 4) (h := ?_) | refine N.one (i := 5) (h := ?_) | refine N.one (i := 6) (h := ?_) | refine N.one (i := 7) (h := ?_) | refine N.one (i := 8) (h := ?_) | refine N.one (i := 9) (h := ?_) | refine N.one (i := 10) (h := ?_) | refine N.one (i := 11) (h := ?_) | (refine QL.step (v := ?_) (by exact rfl) (by exact rfl) ?_ ?_; rotate_left) | refine L.sliceS (lo := 0) (hi := p.size) (by exact rfl) (by exact rfl) (by exact .inl ⟨rfl, rfl⟩) (by exact .inr ⟨_, _, rfl, rfl⟩) (by omega) (by omega) ?_)
    exact D.ret (vs := [_]) (RV.tmp rfl RV.nil) (fun w' hw => Post.mk (is := []) hw (by decide) rfl ⟨rfl, rfl⟩)
theorem hasP_S (s p : ByteArray) : Ctr Try.prog 29 [.string s, .string p] [] tt (is (.bool (hasP s p)) []) := by
  refine Ctr.enter Try.func29 Try.ntmps29 rfl rfl (fun w _ => ?_)
  repeat (first | refine C.seq ?_ | refine C.region ?_ | refine L.nil ?_ | refine D.seq ?_ | refine L.move (k := ?_) | refine L.assign (k := ?_) | refine L.cm (c := ?_) | refine L.ar (c := ?_) | refine L.fieldAddr (c := ?_) | refine L.load1 0 (c := ?_) | refine L.load1 1 (c := ?_) | refine L.load1 2 (c := ?_) | refine L.load1 3 (c := ?_) | refine L.load1 4 (c := ?_) | refine L.loadA 0 (c := ?_) | refine L.loadA 1 (c := ?_) | refine L.loadA 2 (c := ?_) | refine L.loadA 3 (c := ?_) | refine L.loadA 4 (c := ?_) | refine L.storeV 0 (c := ?_) | refine L.storeV 1 (c := ?_) | refine L.storeV 2 (c := ?_) | refine L.storeV 3 (c := ?_) | refine L.storeV 4 (c := ?_) | refine L.extract (c := ?_) | refine L.build (c := ?_) | refine L.alloc (c := fun _ => ?_) | refine L.box (c := fun _ => ?_) | refine L.nilCheck (k := ?_) | refine C.yes (h1 := ?_) | refine C.no (h1 := ?_) | refine L.pickT (k := ?_) | refine L.pickF (k := ?_) | refine L.want (k := ?_) | refine L.pass (k := ?_) | refine L.not (c := ?_) | refine L.lenS (c := ?_) | refine L.strNe (c := ?_) | refine L.strEq (c := ?_) | refine L.lenV (c := ?_) | refine C.block ?_ | refine D.blkNormal ?_ | refine C.ret ?_ | refine D.thenRet ?_ | refine D.blkRet ?_ | refine C.exit ?_ | refine D.thenExit ?_ | refine D.blkExit ?_ | refine D.blkOther (h := ?_) | refine C.skip ?_ | refine L.convI (c := ?_) | refine L.makeMap (c := fun _ => ?_) | refine D.any ?_ | refine D.seqR (h := ?_) | refine L.eqA (c := ?_) | refine L.neA (c := ?_) | refine L.funNil (c := ?_) | refine L.eqB (c := ?_) | refine L.neB (c := ?_) | refine L.passU (k := ?_) | refine L.makeFunc (k := ?_) | refine L.buildS (c := fun _ => ?_) | exact D.endsQ | refine QL.fin ?_ | refine C.quiet (h := ?_) | refine C.mixed (h := ?_) | refine QW.fin (h := ?_) | refine QW.load 0 (k := ?_) | refine QW.load 1 (k := ?_) | refine QW.load 2 (k := ?_) | refine QW.load 3 (k := ?_) | refine QW.load 4 (k := ?_) | refine QW.load 5 (k := ?_) | refine QW.loadA 0 (k := ?_) | refine QW.loadA 1 (k := ?_) | refine QW.loadA 2 (k := ?_) | refine QW.loadA 3 (k := ?_) | refine QW.loadA 4 (k := ?_) | refine QW.loadA 5 (k := ?_) | refine QW.store 0 (k := ?_) | refine QW.store 1 (k := ?_) | refine QW.store 2 (k := ?_) | refine QW.store 3 (k := ?_) | refine QW.store 4 (k := ?_) | refine QW.store 5 (k := ?_) | (refine QW.free (v := ?_) (by exact rfl) (by exact rfl) (fun w1 hk1 => ?_) ?_; rotate_left) | refine N.fin (h := ?_) | refine L.assertY (c := ?_) | refine L.assertN (c := ?_) | refine N.one (i := 0) (h := ?_) | refine N.one (i := 1) (h := ?_) | refine N.one (i := 2) (h := ?_) | refine N.one (i := 3) (h := ?_) | refine N.one (i := 4) (h := ?_) | refine N.one (i := 5) (h := ?_) | refine N.one (i := 6) (h := ?_) | refine N.one (i := 7) (h := ?_) | refine N.one (i := 8) (h := ?_) | refine N.one (i := 9) (h := ?_) | refine N.one (i := 10) (h := ?_) | refine N.one (i := 11) (h := ?_) | (refine QL.step (v := ?_) (by exact rfl) (by exact rfl) ?_ ?_; rotate_left) | refine L.callQ (hasP2_S s p) (k := ?_))
  exact D.ret (vs := [_]) (RV.tmp rfl RV.nil) (fun w' hw => Post.mk (is := []) hw (by decide) rfl ⟨rfl, rfl⟩)
end Go.Proofs.Ytbackpcohkblfaa
