/- Listing: shape; operands: what they answer. No condition. -/
import Derived.Test.YtokcamgipnaoeaaGreatDoorLsB
set_option linter.unusedVariables false
set_option linter.unusedSimpArgs false
namespace Go.Proofs.YtokcamgipnaoeaaGreatDoor.Ls
open Go Go.RowKit SL Go.Shelf
attribute [local irreducible] SL.L SL.C SL.D SL.N SL.H SL.QL SL.QW SL.QP

set_option maxRecDepth 100000 in
set_option maxHeartbeats 8000000 in
theorem shape_S (op : Int) : Ctr Tryz.prog 46 [.int .i64 op] [] tt (is (tx (shapeB op)) []) := by
  rcases (by omega : op = 2 ∨ op = 15 ∨ op = 16 ∨ op = 17 ∨ op = 18 ∨ op = 24 ∨ op = 25 ∨ op = 3 ∨ op = 5 ∨ op = 4 ∨ op = 19 ∨ op = 22 ∨ op = 23 ∨ op = 29 ∨ op = 28 ∨ op = 30 ∨ op = 31 ∨ op = 32 ∨ op = 33 ∨ (op ≠ 2 ∧ op ≠ 15 ∧ op ≠ 16 ∧ op ≠ 17 ∧ op ≠ 18 ∧ op ≠ 24 ∧ op ≠ 25 ∧ op ≠ 3 ∧ op ≠ 5 ∧ op ≠ 4 ∧ op ≠ 19 ∧ op ≠ 22 ∧ op ≠ 23 ∧ op ≠ 29 ∧ op ≠ 28 ∧ op ≠ 30 ∧ op ≠ 31 ∧ op ≠ 32 ∧ op ≠ 33)) with rfl | rfl | rfl | rfl | rfl | rfl | rfl | rfl | rfl | rfl | rfl | rfl | rfl | rfl | rfl | rfl | rfl | rfl | rfl | h
  case inr.inr.inr.inr.inr.inr.inr.inr.inr.inr.inr.inr.inr.inr.inr.inr.inr.inr.inr =>
    have c2 : cm .eql op 2 = false := cm_no (by omega)
    have c15 : cm .eql op 15 = false := cm_no (by omega)
    have c16 : cm .eql op 16 = false := cm_no (by omega)
    have c17 : cm .eql op 17 = false := cm_no (by omega)
    have c18 : cm .eql op 18 = false := cm_no (by omega)
    have c24 : cm .eql op 24 = false := cm_no (by omega)
    have c25 : cm .eql op 25 = false := cm_no (by omega)
    have c3 : cm .eql op 3 = false := cm_no (by omega)
    have c5 : cm .eql op 5 = false := cm_no (by omega)
    have c4 : cm .eql op 4 = false := cm_no (by omega)
    have c19 : cm .eql op 19 = false := cm_no (by omega)
    have c22 : cm .eql op 22 = false := cm_no (by omega)
    have c23 : cm .eql op 23 = false := cm_no (by omega)
    have c29 : cm .eql op 29 = false := cm_no (by omega)
    have c28 : cm .eql op 28 = false := cm_no (by omega)
    have c30 : cm .eql op 30 = false := cm_no (by omega)
    have c31 : cm .eql op 31 = false := cm_no (by omega)
    have c32 : cm .eql op 32 = false := cm_no (by omega)
    have c33 : cm .eql op 33 = false := cm_no (by omega)
    have hS : shapeB op = [68, 83] := by unfold shapeB; simp [h]
    rw [hS]
    refine Ctr.enter Tryz.func46 Tryz.ntmps46 rfl rfl (fun w _ => ?_)
    repeat (first | refine C.seq ?_ | refine C.region ?_ | refine L.nil ?_ | refine D.seq ?_ | refine L.move (k := ?_) | refine L.assign (k := ?_) | refine L.cm (c := ?_) | refine C.no (h1 := ?_) | refine C.block ?_ | refine D.blkNormal ?_ | refine C.ret ?_ | refine C.skip ?_)
    (refine D.ret (vs := [_]) (RV.tmp rfl RV.nil) ?_; intro w' hw; exact Post.mk (is := []) hw List.nodup_nil rfl ⟨rfl, rfl⟩)
  all_goals (refine Ctr.enter Tryz.func46 Tryz.ntmps46 rfl rfl (fun w _ => ?_))
  all_goals (repeat (first | refine C.seq ?_ | refine C.region ?_ | refine L.nil ?_ | refine D.seq ?_ | refine L.move (k := ?_) | refine L.assign (k := ?_) | refine L.cm (c := ?_) | refine C.yes (h1 := ?_) | refine C.no (h1 := ?_) | refine C.block ?_ | refine C.ret ?_ | refine D.thenRet ?_ | refine D.blkRet ?_ | refine C.skip ?_))
  all_goals (refine D.ret (vs := [_]) (RV.tmp rfl RV.nil) ?_; intro w' hw; exact Post.mk (is := []) hw List.nodup_nil rfl ⟨rfl, rfl⟩)
/-- An operand. -/
inductive Opd where
  | r (x : Int)
  | n (x : Int)
  | j (x : Int)
  | m (mb mi ms md : Int)
def Opd.val : Opd → Value
  | .r x => .iface 78 (.int .i64 x)
  | .n x => .iface 80 (.int .i64 x)
  | .j x => .iface 81 (.int .i64 x)
  | .m mb mi ms md => .iface 79 (memV mb mi ms md)
def Opd.txt : Opd → List UInt8
  | .r x => regT x
  | .n x => Lib.itoa x
  | .j x => distT x
  | .m mb mi ms md => placeT mb mi ms md
structure Ins where
  op : Int
  d : Int
  s : Int
  t : Int
  mb : Int
  mi : Int
  ms : Int
  md : Int
  im : Int
abbrev Ins.cells (i : Ins) : List Value := [.int .i64 i.op, .int .i64 i.d, .int .i64 i.s, .int .i64 i.t, .int .i64 i.mb, .int .i64 i.mi, .int .i64 i.ms, .int .i64 i.md, .int .i64 i.im]
abbrev Ins.val (i : Ins) : Value := .agg #[.int .i64 i.op, .int .i64 i.d, .int .i64 i.s, .int .i64 i.t, .int .i64 i.mb, .int .i64 i.mi, .int .i64 i.ms, .int .i64 i.md, .int .i64 i.im]
def opd1 (i : Ins) (c : UInt8) : Opd := if c = 68 then .r i.d else if c = 83 then .r i.s else if c = 84 then .r i.t else if c = 77 then .m i.mb i.mi i.ms i.md else if c = 110 then .n i.im else .j i.im
def opds (i : Ins) : List Opd := (shapeB i.op).map (opd1 i)
def vals (l : List Opd) : List Value := l.map Opd.val
theorem vals_ones (l : List Opd) : ones (vals l) := by
  intro v hv
  obtain ⟨x, _, rfl⟩ := List.mem_map.1 hv
  cases x <;> rfl
/-- Operands, handed back. -/
def opdR (l : List Opd) : Value → Hp → Prop := fun v B => ∃ y, osG 1 l.length (vals l) y ∧ v = shut [osV l.length y] ∧ B = osC 45 y []
theorem shape_in (op : Int) : ∀ c ∈ shapeB op, c = 68 ∨ c = 83 ∨ c = 84 ∨ c = 77 ∨ c = 110 ∨ c = 106 := by
  unfold shapeB
  repeat' split
  all_goals decide
theorem shape_len (op : Int) : (shapeB op).length ≤ 3 := by
  unfold shapeB
  repeat' split
  all_goals decide
theorem dec_asc {l : List UInt8} {i : Nat} {c : UInt8} (h : l[i]? = some c) (hc : c.toNat < 128) : Utf8.decode ⟨l.toArray⟩ i = (c.toNat, 1) := by
  have hg : (⟨l.toArray⟩ : ByteArray).get! i = c := by
    show l.toArray[i]! = c
    rw [Array.getElem!_eq_getD, Array.getD_eq_getD_getElem?]
    simp [h]
  unfold Utf8.decode
  have hg0 : ((⟨l.toArray⟩ : ByteArray).get! (i + 0)).toNat < 0x80 := by rw [Nat.add_zero, hg]; exact hc
  exact (if_pos hg0).trans (by show (((⟨l.toArray⟩ : ByteArray).get! (i + 0)).toNat, 1) = _; rw [Nat.add_zero, hg])
set_option maxRecDepth 100000 in
set_option maxHeartbeats 8000000 in
theorem operands_S (i : Ins) : Ctr Tryz.prog 18 [i.val] [] tt (opdR (opds i)) := by
  have hS := shape_S i.op
  have hsl := shape_len i.op
  have hin := shape_in i.op
  unfold opds
  generalize shapeB i.op = sh at *
  refine Ctr.enter Tryz.func18 Tryz.ntmps18 rfl rfl (fun w _ => ?_)
  repeat (first | refine C.seq ?_ | refine C.region ?_ | refine L.nil ?_ | refine D.seq ?_ | refine L.assign (k := ?_) | refine L.fieldAddr (c := ?_) | refine L.load1 0 (c := ?_) | refine L.box (c := fun _ => ?_) | refine C.block ?_ | refine L.callQ (hS) (k := ?_) | (refine L.rangeS (c := ?_); intro kk))
  --@
  rename_i bb
  refine C.loop (α := Nat × OS) (fun g => g.1 ≤ sh.length ∧ osG 1 g.1 (vals ((sh.take g.1).map (opd1 i))) g.2) (fun g => [(1, .pointer (some ⟨bb, 0, none⟩)), (2, osV g.1 g.2), (8, .pointer (some ⟨kk, 0, none⟩))]) (fun g => (kk, .stringIter ⟨sh.toArray⟩ g.1) :: (bb, ob i.cells 25) :: osC 45 g.2 []) (fun g => sh.length - g.1) (0, none)
    (fun a w hs => hs.lessE rfl (lk_cons rfl (lk_cons rfl (lk_cons rfl (fun _ _ h => lk_nil h))))) ⟨Nat.zero_le _, osG.nil⟩ ?_
  rintro ⟨k, y⟩ ⟨hk, hG⟩
  simp only at hk hG
  dsimp only
  rcases Nat.lt_or_ge k sh.length with hlt | hge
  · obtain ⟨c, hc⟩ : ∃ c, sh[k]? = some c := ⟨_, List.getElem?_eq_getElem hlt⟩
    have hc6 := hin c (List.mem_of_getElem? hc)
    have hc128 : c.toNat < 128 := by rcases hc6 with rfl | rfl | rfl | rfl | rfl | rfl <;> decide
    have hd := dec_asc hc hc128
    have hlt2 : k < (⟨sh.toArray⟩ : ByteArray).size := hlt
    have htk : (sh.take (k + 1)).map (opd1 i) = (sh.take k).map (opd1 i) ++ [opd1 i c] := by rw [List.take_add_one, hc]; simp
    have hm1 : k + 1 ≤ maxLen := by unfold maxLen; omega
    rcases hc6 with rfl | rfl | rfl | rfl | rfl | rfl
    · repeat (first | refine C.seq ?_ | refine C.region ?_ | refine L.nil ?_ | refine D.seq ?_ | refine L.move (k := ?_) | refine L.assign (k := ?_) | refine L.cm (c := ?_) | refine L.fieldAddr (c := ?_) | refine L.load1 1 (c := ?_) | refine L.extract (c := ?_) | refine C.yes (h1 := ?_) | refine C.block ?_ | refine C.skip ?_ | refine L.buildS (c := fun _ => ?_) | refine L.nextS 0 (hlt := hlt2) (hd := hd) (k := ?_) | refine L.mkI (c := ?_))
      rename_i nb
      refine L.appendU [_, _, _] (L2 := []) (y := y) (m := k) (u := .slice (some ⟨nb, 0, none⟩) 1 1) (k := 1) (news := vals [.r i.d]) hG rfl (fun w hw => Rd.own (hw.holds _ List.mem_cons_self) (by simp) (Nat.le_refl _) 1 rfl) rfl (vals_ones _) hm1 (by omega) (c := fun y' hG' _ => ?_)
      simp only [List.cons_append, List.nil_append]
      repeat (first | refine L.nil ?_ | refine L.assign (k := ?_) | refine D.blkNormal ?_)
      exact D.then_ fun a1 w1 hs => ⟨(k + 1, y'), ⟨hlt, by rw [htk]; unfold vals; rw [List.map_append]; exact hG'⟩, by simp only; omega, hs.lessD 1 rfl (lk_cons rfl (lk_cons rfl (lk_cons rfl (fun _ _ h => lk_nil h))))⟩
    · repeat (first | refine C.seq ?_ | refine C.region ?_ | refine L.nil ?_ | refine D.seq ?_ | refine L.move (k := ?_) | refine L.assign (k := ?_) | refine L.cm (c := ?_) | refine L.fieldAddr (c := ?_) | refine L.load1 1 (c := ?_) | refine L.extract (c := ?_) | refine C.yes (h1 := ?_) | refine C.no (h1 := ?_) | refine C.block ?_ | refine C.skip ?_ | refine L.buildS (c := fun _ => ?_) | refine L.nextS 0 (hlt := hlt2) (hd := hd) (k := ?_) | refine L.mkI (c := ?_))
      rename_i nb
      refine L.appendU [_, _, _] (L2 := []) (y := y) (m := k) (u := .slice (some ⟨nb, 0, none⟩) 1 1) (k := 1) (news := vals [.r i.s]) hG rfl (fun w hw => Rd.own (hw.holds _ List.mem_cons_self) (by simp) (Nat.le_refl _) 1 rfl) rfl (vals_ones _) hm1 (by omega) (c := fun y' hG' _ => ?_)
      simp only [List.cons_append, List.nil_append]
      repeat (first | refine L.nil ?_ | refine L.assign (k := ?_) | refine D.blkNormal ?_)
      exact D.then_ fun a1 w1 hs => ⟨(k + 1, y'), ⟨hlt, by rw [htk]; unfold vals; rw [List.map_append]; exact hG'⟩, by simp only; omega, hs.lessD 1 rfl (lk_cons rfl (lk_cons rfl (lk_cons rfl (fun _ _ h => lk_nil h))))⟩
    · repeat (first | refine C.seq ?_ | refine C.region ?_ | refine L.nil ?_ | refine D.seq ?_ | refine L.move (k := ?_) | refine L.assign (k := ?_) | refine L.cm (c := ?_) | refine L.fieldAddr (c := ?_) | refine L.load1 1 (c := ?_) | refine L.extract (c := ?_) | refine C.yes (h1 := ?_) | refine C.no (h1 := ?_) | refine C.block ?_ | refine C.skip ?_ | refine L.buildS (c := fun _ => ?_) | refine L.nextS 0 (hlt := hlt2) (hd := hd) (k := ?_) | refine L.mkI (c := ?_))
      rename_i nb
      refine L.appendU [_, _, _] (L2 := []) (y := y) (m := k) (u := .slice (some ⟨nb, 0, none⟩) 1 1) (k := 1) (news := vals [.r i.t]) hG rfl (fun w hw => Rd.own (hw.holds _ List.mem_cons_self) (by simp) (Nat.le_refl _) 1 rfl) rfl (vals_ones _) hm1 (by omega) (c := fun y' hG' _ => ?_)
      simp only [List.cons_append, List.nil_append]
      repeat (first | refine L.nil ?_ | refine L.assign (k := ?_) | refine D.blkNormal ?_)
      exact D.then_ fun a1 w1 hs => ⟨(k + 1, y'), ⟨hlt, by rw [htk]; unfold vals; rw [List.map_append]; exact hG'⟩, by simp only; omega, hs.lessD 1 rfl (lk_cons rfl (lk_cons rfl (lk_cons rfl (fun _ _ h => lk_nil h))))⟩
    · repeat (first | refine C.seq ?_ | refine C.region ?_ | refine L.nil ?_ | refine D.seq ?_ | refine L.move (k := ?_) | refine L.assign (k := ?_) | refine L.cm (c := ?_) | refine L.fieldAddr (c := ?_) | refine L.loadA 1 (c := ?_) | refine L.extract (c := ?_) | refine C.yes (h1 := ?_) | refine C.no (h1 := ?_) | refine C.block ?_ | refine C.skip ?_ | refine L.buildS (c := fun _ => ?_) | refine L.nextS 0 (hlt := hlt2) (hd := hd) (k := ?_) | refine L.mkI (c := ?_))
      rename_i nb
      refine L.appendU [_, _, _] (L2 := []) (y := y) (m := k) (u := .slice (some ⟨nb, 0, none⟩) 1 1) (k := 1) (news := vals [.m i.mb i.mi i.ms i.md]) hG rfl (fun w hw => Rd.own (hw.holds _ List.mem_cons_self) (by simp) (Nat.le_refl _) 1 rfl) rfl (vals_ones _) hm1 (by omega) (c := fun y' hG' _ => ?_)
      simp only [List.cons_append, List.nil_append]
      repeat (first | refine L.nil ?_ | refine L.assign (k := ?_) | refine D.blkNormal ?_)
      exact D.then_ fun a1 w1 hs => ⟨(k + 1, y'), ⟨hlt, by rw [htk]; unfold vals; rw [List.map_append]; exact hG'⟩, by simp only; omega, hs.lessD 1 rfl (lk_cons rfl (lk_cons rfl (lk_cons rfl (fun _ _ h => lk_nil h))))⟩
    · repeat (first | refine C.seq ?_ | refine C.region ?_ | refine L.nil ?_ | refine D.seq ?_ | refine L.move (k := ?_) | refine L.assign (k := ?_) | refine L.cm (c := ?_) | refine L.fieldAddr (c := ?_) | refine L.load1 1 (c := ?_) | refine L.extract (c := ?_) | refine C.yes (h1 := ?_) | refine C.no (h1 := ?_) | refine C.block ?_ | refine C.skip ?_ | refine L.buildS (c := fun _ => ?_) | refine L.nextS 0 (hlt := hlt2) (hd := hd) (k := ?_) | refine L.mkI (c := ?_))
      rename_i nb
      refine L.appendU [_, _, _] (L2 := []) (y := y) (m := k) (u := .slice (some ⟨nb, 0, none⟩) 1 1) (k := 1) (news := vals [.n i.im]) hG rfl (fun w hw => Rd.own (hw.holds _ List.mem_cons_self) (by simp) (Nat.le_refl _) 1 rfl) rfl (vals_ones _) hm1 (by omega) (c := fun y' hG' _ => ?_)
      simp only [List.cons_append, List.nil_append]
      repeat (first | refine L.nil ?_ | refine L.assign (k := ?_) | refine D.blkNormal ?_)
      exact D.then_ fun a1 w1 hs => ⟨(k + 1, y'), ⟨hlt, by rw [htk]; unfold vals; rw [List.map_append]; exact hG'⟩, by simp only; omega, hs.lessD 1 rfl (lk_cons rfl (lk_cons rfl (lk_cons rfl (fun _ _ h => lk_nil h))))⟩
    · repeat (first | refine C.seq ?_ | refine C.region ?_ | refine L.nil ?_ | refine D.seq ?_ | refine L.move (k := ?_) | refine L.assign (k := ?_) | refine L.cm (c := ?_) | refine L.fieldAddr (c := ?_) | refine L.load1 1 (c := ?_) | refine L.extract (c := ?_) | refine C.yes (h1 := ?_) | refine C.no (h1 := ?_) | refine C.block ?_ | refine C.skip ?_ | refine L.buildS (c := fun _ => ?_) | refine L.nextS 0 (hlt := hlt2) (hd := hd) (k := ?_) | refine L.mkI (c := ?_))
      rename_i nb
      refine L.appendU [_, _, _] (L2 := []) (y := y) (m := k) (u := .slice (some ⟨nb, 0, none⟩) 1 1) (k := 1) (news := vals [.j i.im]) hG rfl (fun w hw => Rd.own (hw.holds _ List.mem_cons_self) (by simp) (Nat.le_refl _) 1 rfl) rfl (vals_ones _) hm1 (by omega) (c := fun y' hG' _ => ?_)
      simp only [List.cons_append, List.nil_append]
      repeat (first | refine L.nil ?_ | refine L.assign (k := ?_) | refine D.blkNormal ?_)
      exact D.then_ fun a1 w1 hs => ⟨(k + 1, y'), ⟨hlt, by rw [htk]; unfold vals; rw [List.map_append]; exact hG'⟩, by simp only; omega, hs.lessD 1 rfl (lk_cons rfl (lk_cons rfl (lk_cons rfl (fun _ _ h => lk_nil h))))⟩
  · have hge2 : (⟨sh.toArray⟩ : ByteArray).size ≤ k := hge
    obtain rfl : k = sh.length := by omega
    rw [List.take_length] at hG
    repeat (first | refine C.seq ?_ | refine C.region ?_ | refine L.nil ?_ | refine D.seq ?_ | refine L.move (k := ?_) | refine L.assign (k := ?_) | refine L.extract (c := ?_) | refine C.no (h1 := ?_) | refine C.ret ?_ | refine C.exit ?_ | refine D.thenExit ?_ | refine D.blkExit ?_ | refine D.seqR (h := ?_) | refine L.nextE 0 (hge := hge2) (k := ?_))
    refine D.ret (vs := [osV (sh.map (opd1 i)).length y]) (RV.tmp (by rw [List.length_map]; rfl) RV.nil) ?_
    intro w' hw
    exact Post.mkD 2 hw rfl ⟨y, by rw [List.length_map]; exact hG, rfl, rfl⟩
end Go.Proofs.YtokcamgipnaoeaaGreatDoor.Ls
