/- Listing: texts as rows of bytes; the library's functions by the shelf's contracts; inst.Register; the texts of operands. Conditions: the library's tables as laid. -/
import Derived.Test.YtokcamgipnaoeaaGreatDoorCmp
import Derived.Test.YtokcamgipnaoeaaGreatDoorMA
import Derived.Test.YtokcamgipnaoeaaGreatDoorSepM2
import Derived.Test.YtokcamgipnaoeaaGreatDoorSepF
import Derived.Test.YtokcamgipnaoeaaGreatDoorSepGZ
import Derived.Test.YtokcamgipnaoeaaGreatDoorSepU
import Derived.Test.YtokcamgipnaoeaaGreatDoorSepY
import Derived.Test.YtokcamgipnaoeaaGreatDoorFin
import Derived.Test.YtokcamgipnaoeaaGreatDoorTy
import Derived.Ground.NamesProg
import Derived.Test.YtokcamgipnaoeaaGreatDoorLays
import Derived.Shelf.Strconv.Itoa4
import Derived.Shelf.Strings.OnBuilder
import Derived.Shelf.Strings.Prefix
import Derived.Shelf.Strings.Cut
import Derived.Lib.AppendIntMem
import Derived.Lib.ItoaLen
set_option linter.unusedVariables false
set_option linter.unusedSimpArgs false
namespace Go.Proofs
open Go.RowKit Go.Shelf

theorem Tryz.joinExtra : Builder.Extra Tryz.prog Tryz.joinLay_ren := {
  sizeBuilder := by kernel_rfl
  liesBuilder := by kernel_rfl
  t5 := Tryz.underlying5
  a5 := Tryz.isAgg5
  z5 := Tryz.sizeOf5
  v5 := Tryz.zeroValue5
  infoByte := by kernel_rfl
  cellsByte := by kernel_rfl
  sizeByte := by kernel_rfl
  neB5 := by decide }
end Go.Proofs
namespace Go.Proofs.YtokcamgipnaoeaaGreatDoor.Ls
open Go Go.RowKit SL Go.Shelf
attribute [local irreducible] SL.L SL.C SL.D SL.N SL.H SL.QL SL.QW SL.QP

section
variable {P : Program} {ops : Array Oper} {Q : Exit → Act → World → Prop} {s : St} {E : Env} {M : Hp} {rest : List Oper} {d t : Nat} {pos : String} {af : Array Edge}
theorem _root_.Go.Proofs.YtokcamgipnaoeaaGreatDoor.SL.L.mkI {T : TypeId} {x : Operand} {v : Value} {ds : TypeDesc} [hu : Und P T ds] (hn : Nat.blt d s.n = true := by exact rfl) (hx : ev E x = some v := by exact rfl) (hd : (match ds with | .interface _ => false | _ => true) = true := by exact rfl)
    (c : L P ops Q rest s ((d, .iface T v) :: E) M) : L P ops Q (⟨some d, .makeInterface T x, t, pos, af, none⟩ :: rest) s E M :=
  L.calm (S := fun ρ => Instr.makeInterface T (ρ x)) hn (fun _ => rfl) (fun a w hs => by
    show (Instr.makeInterface T (a.eval x)).run P w = _
    rw [hs.ev hx]
    unfold Instr.makeInterface
    refine (run_bind_ok und_run).trans ?_
    cases ds <;> first | (cases hd; done) | simp [pure]) c
theorem _root_.Go.Proofs.YtokcamgipnaoeaaGreatDoor.SL.L.indexE {T e len k : Nat} {x y : Operand} {cs : List Value} {v : Value} {q : IntKind} {i : Int} [hT : Und P T (.array len e)] [hA : Sgl P e] [hS : Siz P e 1] (hi : i = (k : Int)) (hk : k < len) (hv : cs[k]? = some v)
    (hn : Nat.blt d s.n = true := by exact rfl) (hx : ev E x = some (.agg cs.toArray) := by exact rfl) (hy : ev E y = some (.int q i) := by exact rfl)
    (c : L P ops Q rest s ((d, v) :: E) M) : L P ops Q (⟨some d, .index T x y, t, pos, af, none⟩ :: rest) s E M :=
  L.calm (S := fun ρ => Instr.index T (ρ x) (ρ y)) hn (fun _ => rfl) (fun a w hs => by
    show (Instr.index T (a.eval x) (a.eval y)).run P w = _
    rw [hs.ev hx, hs.ev hy, hi]
    unfold Instr.index
    have e : (asIntOf (.int q (k : Int)) : Sem (IntKind × Int)).run P w = .ok (q, (k : Int)) w := rfl
    rw [run_bind_ok e]
    show Sem.run P (underlying T >>= _) w = _
    rw [run_bind_ok und_run]
    simp only
    rw [if_pos ⟨by omega, by omega⟩, run_bind_ok (siz_run hS.out)]
    obtain ⟨ds, hu, hg⟩ := hA.out
    have hu : Und P _ ds := ⟨hu⟩
    unfold part
    rw [run_bind_ok agg_run, hg]
    simp [hv]
    ) c
end
theorem spec_n {f : Nat} {args : List Value} {v : Value} {pre : World → Prop} (h : ∀ w, pre w → Calls Tryz.prog f args.toArray w fun e w' => e = .returned v ∧ Below w.heap.size w w') : Ctr Tryz.prog f args [] pre (is v []) := by
  intro w _ _ hp
  refine (h w hp).mono ?_
  rintro e w' ⟨rfl, hb⟩
  exact ⟨v, [], rfl, ⟨rfl, rfl⟩, Keeps.of_below hb _, by simp [keys], by simp, by simp⟩
/-- A text. -/
abbrev tx (l : List UInt8) : Value := .string ⟨l.toArray⟩
def I64' (n : Int) : Prop := -9223372036854775808 ≤ n ∧ n ≤ 9223372036854775807
theorem below_grow (w : World) (k : Nat) (os : Array Obj) : Below w.heap.size w (Sort.grow (w.drewN k) os) := by
  refine ⟨rfl, rfl, rfl, ?_, fun b hb => ?_⟩
  · show w.heap.size ≤ (w.heap ++ os).size
    rw [Array.size_append]; omega
  · show (w.heap ++ os)[b]? = w.heap[b]?
    rw [Array.getElem?_append_left hb]
def Tab (w : World) : Prop := Lib.TabIs Tryz.prog w "internal/strconv.uint64pow10" .u64 Lib.pow10Tab
theorem Tab.bel {w w' : World} {M : Hp} (h : Tab w) (hw : At w [] M w') : Tab w' := Lib.tabBelow_of_tabIs h w' hw.keeps.below
theorem fmt_S (n : Int) (h : I64' n) : Ctr Tryz.prog 134 [.int .i64 n, .int .i64 10] [] Tab (is (tx (Lib.itoa n)) []) :=
  spec_n (fun w hw => (Any.strconv_FormatInt_10 Tryz.fmtLay n h.1 h.2 w hw).mono (by rintro e w' ⟨rfl, k, os, rfl⟩; exact ⟨rfl, below_grow w k os⟩))
theorem itoa_S (n : Int) (h : I64' n) : Ctr Tryz.prog 99 [.int .i64 n] [] Tab (is (tx (Lib.itoa n)) []) :=
  spec_n (fun w hw => (Any.strconv_Itoa Tryz.itoaLay n h.1 h.2 w hw).mono (by rintro e w' ⟨rfl, k, os, rfl⟩; exact ⟨rfl, below_grow w k os⟩))
/-- A register's name; none: no bytes. -/
def regL : List (List UInt8) := [[114, 97, 120], [114, 99, 120], [114, 100, 120], [114, 98, 120], [114, 115, 112], [114, 98, 112], [114, 115, 105], [114, 100, 105], [114, 56], [114, 57], [114, 49, 48], [114, 49, 49], [114, 49, 50], [114, 49, 51], [114, 49, 52], [114, 49, 53]]
def regT (r : Int) : List UInt8 := if reg r then regL.getD r.toNat [] else []
theorem register_S (r : Int) : Ctr Tryz.prog 44 [.int .i64 r] [] tt (is (.bool (reg r)) []) :=
  spec_n (fun w _ => (register_any r w).mono (by rintro e w' ⟨rfl, rfl⟩; exact ⟨rfl, Below.refl _ _⟩))
theorem reg_get {r : Nat} (h : r < 16) : (regL.map tx)[r]? = some (tx (regT (r : Int))) := by
  have key : ∀ r : Nat, r < 16 → regL[r]? = some (regT (r : Int)) := by decide
  rw [List.getElem?_map, key r h]; rfl
theorem name_S (r : Int) : Ctr Tryz.prog 65 [.int .i64 r] [] tt (is (tx (regT r)) []) := by
  have hR := register_S r
  refine Ctr.enter Tryz.func65 Tryz.ntmps65 rfl rfl (fun w _ => ?_)
  by_cases h : reg r = true
  · rw [h] at hR
    have hr : 0 ≤ r ∧ r ≤ 15 := by simpa [reg] using h
    obtain ⟨n, rfl⟩ := Int.eq_ofNat_of_zero_le hr.1
    have hg := reg_get (r := n) (by omega)
    have hl : n < 16 := by omega
    repeat (first | refine C.seq ?_ | refine C.region ?_ | refine L.nil ?_ | refine D.seq ?_ | refine L.move (k := ?_) | refine L.assign (k := ?_) | refine L.cm (c := ?_) | refine L.ar (c := ?_) | refine L.fieldAddr (c := ?_) | refine L.load1 0 (c := ?_) | refine L.load1 1 (c := ?_) | refine L.load1 2 (c := ?_) | refine L.load1 3 (c := ?_) | refine L.load1 4 (c := ?_) | refine L.loadA 0 (c := ?_) | refine L.loadA 1 (c := ?_) | refine L.loadA 2 (c := ?_) | refine L.loadA 3 (c := ?_) | refine L.loadA 4 (c := ?_) | refine L.storeV 0 (c := ?_) | refine L.storeV 1 (c := ?_) | refine L.storeV 2 (c := ?_) | refine L.storeV 3 (c := ?_) | refine L.storeV 4 (c := ?_) | refine L.extract (c := ?_) | refine L.build (c := ?_) | refine L.alloc (c := fun _ => ?_) | refine L.box (c := fun _ => ?_) | refine L.nilCheck (k := ?_) | refine C.yes (h1 := ?_) | refine C.no (h1 := ?_) | refine L.pickT (k := ?_) | refine L.pickF (k := ?_) | refine L.want (k := ?_) | refine L.pass (k := ?_) | refine L.not (c := ?_) | refine L.lenS (c := ?_) | refine L.strNe (c := ?_) | refine L.strEq (c := ?_) | refine L.lenV (c := ?_) | refine C.block ?_ | refine D.blkNormal ?_ | refine C.ret ?_ | refine D.thenRet ?_ | refine D.blkRet ?_ | refine C.exit ?_ | refine D.thenExit ?_ | refine D.blkExit ?_ | refine D.blkOther (h := ?_) | refine C.skip ?_ | refine L.convI (c := ?_) | refine L.makeMap (c := fun _ => ?_) | refine D.any ?_ | refine D.seqR (h := ?_) | refine L.eqA (c := ?_) | refine L.neA (c := ?_) | refine L.funNil (c := ?_) | refine L.eqB (c := ?_) | refine L.neB (c := ?_) | refine L.passU (k := ?_) | refine L.makeFunc (k := ?_) | refine L.buildS (c := fun _ => ?_) | exact D.endsQ | refine QL.fin ?_ | refine N.fin (h := ?_) | refine L.assertY (c := ?_) | refine L.assertN (c := ?_) | refine N.one (i := 0) (h := ?_) | refine N.one (i := 1) (h := ?_) | refine N.one (i := 2) (h := ?_) | refine N.one (i := 3) (h := ?_) | refine N.one (i := 4) (h := ?_) | refine N.one (i := 5) (h := ?_) | refine N.one (i := 6) (h := ?_) | refine N.one (i := 7) (h := ?_) | refine N.one (i := 8) (h := ?_) | refine N.one (i := 9) (h := ?_) | refine N.one (i := 10) (h := ?_) | refine N.one (i := 11) (h := ?_) | (refine QL.step (v := ?_) (by exact rfl) (by exact rfl) ?_ ?_; rotate_left) | refine L.callQ (hR) (k := ?_) | refine L.buildA (l' := regL.map tx) (hl := by exact rfl) (c := ?_))
    refine L.indexE (len := 16) rfl hl hg (c := ?_)
    repeat (first | refine C.seq ?_ | refine C.region ?_ | refine L.nil ?_ | refine D.seq ?_ | refine L.move (k := ?_) | refine L.assign (k := ?_) | refine L.cm (c := ?_) | refine L.ar (c := ?_) | refine L.fieldAddr (c := ?_) | refine L.load1 0 (c := ?_) | refine L.load1 1 (c := ?_) | refine L.load1 2 (c := ?_) | refine L.load1 3 (c := ?_) | refine L.load1 4 (c := ?_) | refine L.loadA 0 (c := ?_) | refine L.loadA 1 (c := ?_) | refine L.loadA 2 (c := ?_) | refine L.loadA 3 (c := ?_) | refine L.loadA 4 (c := ?_) | refine L.storeV 0 (c := ?_) | refine L.storeV 1 (c := ?_) | refine L.storeV 2 (c := ?_) | refine L.storeV 3 (c := ?_) | refine L.storeV 4 (c := ?_) | refine L.extract (c := ?_) | refine L.build (c := ?_) | refine L.alloc (c := fun _ => ?_) | refine L.box (c := fun _ => ?_) | refine L.nilCheck (k := ?_) | refine C.yes (h1 := ?_) | refine C.no (h1 := ?_) | refine L.pickT (k := ?_) | refine L.pickF (k := ?_) | refine L.want (k := ?_) | refine L.pass (k := ?_) | refine L.not (c := ?_) | refine L.lenS (c := ?_) | refine L.strNe (c := ?_) | refine L.strEq (c := ?_) | refine L.lenV (c := ?_) | refine C.block ?_ | refine D.blkNormal ?_ | refine C.ret ?_ | refine D.thenRet ?_ | refine D.blkRet ?_ | refine C.exit ?_ | refine D.thenExit ?_ | refine D.blkExit ?_ | refine D.blkOther (h := ?_) | refine C.skip ?_ | refine L.convI (c := ?_) | refine L.makeMap (c := fun _ => ?_) | refine D.any ?_ | refine D.seqR (h := ?_) | refine L.eqA (c := ?_) | refine L.neA (c := ?_) | refine L.funNil (c := ?_) | refine L.eqB (c := ?_) | refine L.neB (c := ?_) | refine L.passU (k := ?_) | refine L.makeFunc (k := ?_) | refine L.buildS (c := fun _ => ?_) | exact D.endsQ | refine QL.fin ?_ | refine N.fin (h := ?_) | refine L.assertY (c := ?_) | refine L.assertN (c := ?_) | refine N.one (i := 0) (h := ?_) | refine N.one (i := 1) (h := ?_) | refine N.one (i := 2) (h := ?_) | refine N.one (i := 3) (h := ?_) | refine N.one (i := 4) (h := ?_) | refine N.one (i := 5) (h := ?_) | refine N.one (i := 6) (h := ?_) | refine N.one (i := 7) (h := ?_) | refine N.one (i := 8) (h := ?_) | refine N.one (i := 9) (h := ?_) | refine N.one (i := 10) (h := ?_) | refine N.one (i := 11) (h := ?_) | (refine QL.step (v := ?_) (by exact rfl) (by exact rfl) ?_ ?_; rotate_left))
    (refine D.ret (vs := [_]) (RV.tmp rfl RV.nil) ?_; intro w' hw; exact Post.mk (is := []) hw List.nodup_nil rfl ⟨rfl, rfl⟩)
  · have h0 : reg r = false := by simpa using h
    have hT : regT r = [] := by unfold regT; rw [h0]; rfl
    rw [h0] at hR
    rw [hT]
    repeat (first | refine C.seq ?_ | refine C.region ?_ | refine L.nil ?_ | refine D.seq ?_ | refine L.move (k := ?_) | refine L.assign (k := ?_) | refine L.cm (c := ?_) | refine L.ar (c := ?_) | refine L.fieldAddr (c := ?_) | refine L.load1 0 (c := ?_) | refine L.load1 1 (c := ?_) | refine L.load1 2 (c := ?_) | refine L.load1 3 (c := ?_) | refine L.load1 4 (c := ?_) | refine L.loadA 0 (c := ?_) | refine L.loadA 1 (c := ?_) | refine L.loadA 2 (c := ?_) | refine L.loadA 3 (c := ?_) | refine L.loadA 4 (c := ?_) | refine L.storeV 0 (c := ?_) | refine L.storeV 1 (c := ?_) | refine L.storeV 2 (c := ?_) | refine L.storeV 3 (c := ?_) | refine L.storeV 4 (c := ?_) | refine L.extract (c := ?_) | refine L.build (c := ?_) | refine L.alloc (c := fun _ => ?_) | refine L.box (c := fun _ => ?_) | refine L.nilCheck (k := ?_) | refine C.yes (h1 := ?_) | refine C.no (h1 := ?_) | refine L.pickT (k := ?_) | refine L.pickF (k := ?_) | refine L.want (k := ?_) | refine L.pass (k := ?_) | refine L.not (c := ?_) | refine L.lenS (c := ?_) | refine L.strNe (c := ?_) | refine L.strEq (c := ?_) | refine L.lenV (c := ?_) | refine C.block ?_ | refine D.blkNormal ?_ | refine C.ret ?_ | refine D.thenRet ?_ | refine D.blkRet ?_ | refine C.exit ?_ | refine D.thenExit ?_ | refine D.blkExit ?_ | refine D.blkOther (h := ?_) | refine C.skip ?_ | refine L.convI (c := ?_) | refine L.makeMap (c := fun _ => ?_) | refine D.any ?_ | refine D.seqR (h := ?_) | refine L.eqA (c := ?_) | refine L.neA (c := ?_) | refine L.funNil (c := ?_) | refine L.eqB (c := ?_) | refine L.neB (c := ?_) | refine L.passU (k := ?_) | refine L.makeFunc (k := ?_) | refine L.buildS (c := fun _ => ?_) | exact D.endsQ | refine QL.fin ?_ | refine N.fin (h := ?_) | refine L.assertY (c := ?_) | refine L.assertN (c := ?_) | refine N.one (i := 0) (h := ?_) | refine N.one (i := 1) (h := ?_) | refine N.one (i := 2) (h := ?_) | refine N.one (i := 3) (h := ?_) | refine N.one (i := 4) (h := ?_) | refine N.one (i := 5) (h := ?_) | refine N.one (i := 6) (h := ?_) | refine N.one (i := 7) (h := ?_) | refine N.one (i := 8) (h := ?_) | refine N.one (i := 9) (h := ?_) | refine N.one (i := 10) (h := ?_) | refine N.one (i := 11) (h := ?_) | (refine QL.step (v := ?_) (by exact rfl) (by exact rfl) ?_ ?_; rotate_left) | refine L.callQ (hR) (k := ?_))
    (refine D.ret (vs := [_]) (RV.tmp rfl RV.nil) ?_; intro w' hw; exact Post.mk (is := []) hw List.nodup_nil rfl ⟨rfl, rfl⟩)
/-- A number with its sign; a place. -/
def distT (n : Int) : List UInt8 := if n < 0 then Lib.itoa n else 43 :: Lib.itoa n
def placeT (mb mi ms md : Int) : List UInt8 := [91] ++ regT mb ++ (if mi = -1 then [] else [43] ++ Lib.itoa ms ++ [42] ++ regT mi) ++ (if md = 0 then [] else distT md) ++ [93]
theorem tx_app (a b : List UInt8) : (⟨a.toArray⟩ : ByteArray) ++ ⟨b.toArray⟩ = ⟨(a ++ b).toArray⟩ := by
  have : ∀ x y : ByteArray, x.data = y.data → x = y := fun x y h => by cases x; cases y; simp at h; rw [h]
  apply this
  simp
theorem number_S (n : Int) (h : I64' n) : Ctr Tryz.prog 133 [.int .i64 n] [] Tab (is (tx (Lib.itoa n)) []) := by
  have hF := fmt_S n h
  refine Ctr.enter Tryz.func133 Tryz.ntmps133 rfl rfl (fun w ht => ?_)
  repeat (first | refine C.seq ?_ | refine C.region ?_ | refine L.nil ?_ | refine D.seq ?_ | refine L.move (k := ?_) | refine L.assign (k := ?_) | refine L.cm (c := ?_) | refine L.ar (c := ?_) | refine L.fieldAddr (c := ?_) | refine L.load1 0 (c := ?_) | refine L.load1 1 (c := ?_) | refine L.load1 2 (c := ?_) | refine L.load1 3 (c := ?_) | refine L.load1 4 (c := ?_) | refine L.loadA 0 (c := ?_) | refine L.loadA 1 (c := ?_) | refine L.loadA 2 (c := ?_) | refine L.loadA 3 (c := ?_) | refine L.loadA 4 (c := ?_) | refine L.storeV 0 (c := ?_) | refine L.storeV 1 (c := ?_) | refine L.storeV 2 (c := ?_) | refine L.storeV 3 (c := ?_) | refine L.storeV 4 (c := ?_) | refine L.extract (c := ?_) | refine L.build (c := ?_) | refine L.alloc (c := fun _ => ?_) | refine L.box (c := fun _ => ?_) | refine L.nilCheck (k := ?_) | refine C.yes (h1 := ?_) | refine C.no (h1 := ?_) | refine L.pickT (k := ?_) | refine L.pickF (k := ?_) | refine L.want (k := ?_) | refine L.pass (k := ?_) | refine L.not (c := ?_) | refine L.lenS (c := ?_) | refine L.strNe (c := ?_) | refine L.strEq (c := ?_) | refine L.lenV (c := ?_) | refine C.block ?_ | refine D.blkNormal ?_ | refine C.ret ?_ | refine D.thenRet ?_ | refine D.blkRet ?_ | refine C.exit ?_ | refine D.thenExit ?_ | refine D.blkExit ?_ | refine D.blkOther (h := ?_) | refine C.skip ?_ | refine L.convI (c := ?_) | refine L.makeMap (c := fun _ => ?_) | refine D.any ?_ | refine D.seqR (h := ?_) | refine L.eqA (c := ?_) | refine L.neA (c := ?_) | refine L.funNil (c := ?_) | refine L.eqB (c := ?_) | refine L.neB (c := ?_) | refine L.passU (k := ?_) | refine L.makeFunc (k := ?_) | refine L.buildS (c := fun _ => ?_) | exact D.endsQ | refine QL.fin ?_ | refine N.fin (h := ?_) | refine L.assertY (c := ?_) | refine L.assertN (c := ?_) | refine N.one (i := 0) (h := ?_) | refine N.one (i := 1) (h := ?_) | refine N.one (i := 2) (h := ?_) | refine N.one (i := 3) (h := ?_) | refine N.one (i := 4) (h := ?_) | refine N.one (i := 5) (h := ?_) | refine N.one (i := 6) (h := ?_) | refine N.one (i := 7) (h := ?_) | refine N.one (i := 8) (h := ?_) | refine N.one (i := 9) (h := ?_) | refine N.one (i := 10) (h := ?_) | refine N.one (i := 11) (h := ?_) | (refine QL.step (v := ?_) (by exact rfl) (by exact rfl) ?_ ?_; rotate_left) | refine L.callQ hF (hpre := fun _ hw => ht.bel hw) (k := ?_))
  (refine D.ret (vs := [_]) (RV.tmp rfl RV.nil) ?_; intro w' hw; exact Post.mk (is := []) hw List.nodup_nil rfl ⟨rfl, rfl⟩)
theorem distance_S (n : Int) (h : I64' n) : Ctr Tryz.prog 132 [.int .i64 n] [] Tab (is (tx (distT n)) []) := by
  have hF := number_S n h
  have hL := Lib.itoa_length_le n h.1 h.2
  refine Ctr.enter Tryz.func132 Tryz.ntmps132 rfl rfl (fun w ht => ?_)
  unfold distT
  by_cases h0 : n < 0
  · have c1 : cm .lss n 0 = true := cm_lo h0
    rw [if_pos h0]
    repeat (first | refine C.seq ?_ | refine C.region ?_ | refine L.nil ?_ | refine D.seq ?_ | refine L.move (k := ?_) | refine L.assign (k := ?_) | refine L.cm (c := ?_) | refine L.ar (c := ?_) | refine L.fieldAddr (c := ?_) | refine L.load1 0 (c := ?_) | refine L.load1 1 (c := ?_) | refine L.load1 2 (c := ?_) | refine L.load1 3 (c := ?_) | refine L.load1 4 (c := ?_) | refine L.loadA 0 (c := ?_) | refine L.loadA 1 (c := ?_) | refine L.loadA 2 (c := ?_) | refine L.loadA 3 (c := ?_) | refine L.loadA 4 (c := ?_) | refine L.storeV 0 (c := ?_) | refine L.storeV 1 (c := ?_) | refine L.storeV 2 (c := ?_) | refine L.storeV 3 (c := ?_) | refine L.storeV 4 (c := ?_) | refine L.extract (c := ?_) | refine L.build (c := ?_) | refine L.alloc (c := fun _ => ?_) | refine L.box (c := fun _ => ?_) | refine L.nilCheck (k := ?_) | refine C.yes (h1 := ?_) | refine C.no (h1 := ?_) | refine L.pickT (k := ?_) | refine L.pickF (k := ?_) | refine L.want (k := ?_) | refine L.pass (k := ?_) | refine L.not (c := ?_) | refine L.lenS (c := ?_) | refine L.strNe (c := ?_) | refine L.strEq (c := ?_) | refine L.lenV (c := ?_) | refine C.block ?_ | refine D.blkNormal ?_ | refine C.ret ?_ | refine D.thenRet ?_ | refine D.blkRet ?_ | refine C.exit ?_ | refine D.thenExit ?_ | refine D.blkExit ?_ | refine D.blkOther (h := ?_) | refine C.skip ?_ | refine L.convI (c := ?_) | refine L.makeMap (c := fun _ => ?_) | refine D.any ?_ | refine D.seqR (h := ?_) | refine L.eqA (c := ?_) | refine L.neA (c := ?_) | refine L.funNil (c := ?_) | refine L.eqB (c := ?_) | refine L.neB (c := ?_) | refine L.passU (k := ?_) | refine L.makeFunc (k := ?_) | refine L.buildS (c := fun _ => ?_) | exact D.endsQ | refine QL.fin ?_ | refine N.fin (h := ?_) | refine L.assertY (c := ?_) | refine L.assertN (c := ?_) | refine N.one (i := 0) (h := ?_) | refine N.one (i := 1) (h := ?_) | refine N.one (i := 2) (h := ?_) | refine N.one (i := 3) (h := ?_) | refine N.one (i := 4) (h := ?_) | refine N.one (i := 5) (h := ?_) | refine N.one (i := 6) (h := ?_) | refine N.one (i := 7) (h := ?_) | refine N.one (i := 8) (h := ?_) | refine N.one (i := 9) (h := ?_) | refine N.one (i := 10) (h := ?_) | refine N.one (i := 11) (h := ?_) | (refine QL.step (v := ?_) (by exact rfl) (by exact rfl) ?_ ?_; rotate_left) | refine L.callQ hF (hpre := fun _ hw => ht.bel hw) (k := ?_))
    (refine D.ret (vs := [_]) (RV.tmp rfl RV.nil) ?_; intro w' hw; exact Post.mk (is := []) hw List.nodup_nil rfl ⟨rfl, rfl⟩)
  · have c1 : cm .lss n 0 = false := cm_lo' (by omega)
    rw [if_neg h0]
    have hs : (⟨#[43]⟩ : ByteArray).size + (⟨(Lib.itoa n).toArray⟩ : ByteArray).size ≤ 1000000000 := by show 1 + (Lib.itoa n).length ≤ _; omega
    repeat (first | refine C.seq ?_ | refine C.region ?_ | refine L.nil ?_ | refine D.seq ?_ | refine L.move (k := ?_) | refine L.assign (k := ?_) | refine L.cm (c := ?_) | refine L.ar (c := ?_) | refine L.fieldAddr (c := ?_) | refine L.load1 0 (c := ?_) | refine L.load1 1 (c := ?_) | refine L.load1 2 (c := ?_) | refine L.load1 3 (c := ?_) | refine L.load1 4 (c := ?_) | refine L.loadA 0 (c := ?_) | refine L.loadA 1 (c := ?_) | refine L.loadA 2 (c := ?_) | refine L.loadA 3 (c := ?_) | refine L.loadA 4 (c := ?_) | refine L.storeV 0 (c := ?_) | refine L.storeV 1 (c := ?_) | refine L.storeV 2 (c := ?_) | refine L.storeV 3 (c := ?_) | refine L.storeV 4 (c := ?_) | refine L.extract (c := ?_) | refine L.build (c := ?_) | refine L.alloc (c := fun _ => ?_) | refine L.box (c := fun _ => ?_) | refine L.nilCheck (k := ?_) | refine C.yes (h1 := ?_) | refine C.no (h1 := ?_) | refine L.pickT (k := ?_) | refine L.pickF (k := ?_) | refine L.want (k := ?_) | refine L.pass (k := ?_) | refine L.not (c := ?_) | refine L.lenS (c := ?_) | refine L.strNe (c := ?_) | refine L.strEq (c := ?_) | refine L.lenV (c := ?_) | refine C.block ?_ | refine D.blkNormal ?_ | refine C.ret ?_ | refine D.thenRet ?_ | refine D.blkRet ?_ | refine C.exit ?_ | refine D.thenExit ?_ | refine D.blkExit ?_ | refine D.blkOther (h := ?_) | refine C.skip ?_ | refine L.convI (c := ?_) | refine L.makeMap (c := fun _ => ?_) | refine D.any ?_ | refine D.seqR (h := ?_) | refine L.eqA (c := ?_) | refine L.neA (c := ?_) | refine L.funNil (c := ?_) | refine L.eqB (c := ?_) | refine L.neB (c := ?_) | refine L.passU (k := ?_) | refine L.makeFunc (k := ?_) | refine L.buildS (c := fun _ => ?_) | exact D.endsQ | refine QL.fin ?_ | refine N.fin (h := ?_) | refine L.assertY (c := ?_) | refine L.assertN (c := ?_) | refine N.one (i := 0) (h := ?_) | refine N.one (i := 1) (h := ?_) | refine N.one (i := 2) (h := ?_) | refine N.one (i := 3) (h := ?_) | refine N.one (i := 4) (h := ?_) | refine N.one (i := 5) (h := ?_) | refine N.one (i := 6) (h := ?_) | refine N.one (i := 7) (h := ?_) | refine N.one (i := 8) (h := ?_) | refine N.one (i := 9) (h := ?_) | refine N.one (i := 10) (h := ?_) | refine N.one (i := 11) (h := ?_) | (refine QL.step (v := ?_) (by exact rfl) (by exact rfl) ?_ ?_; rotate_left) | refine L.callQ hF (hpre := fun _ hw => ht.bel hw) (k := ?_) | refine L.strAdd hs (c := ?_))
    (refine D.ret (vs := [_]) (RV.tmp rfl RV.nil) ?_; intro w' hw; exact Post.mk (is := []) hw List.nodup_nil rfl ⟨congrArg Value.string (tx_app [43] (Lib.itoa n)), rfl⟩)
end Go.Proofs.YtokcamgipnaoeaaGreatDoor.Ls
