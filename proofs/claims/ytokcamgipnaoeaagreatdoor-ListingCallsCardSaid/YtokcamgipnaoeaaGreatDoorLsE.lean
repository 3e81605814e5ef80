/- Listing: strings.LastIndexAny(s, "+-"): what it answers, and what it calls. Condition: the tables of unicode/utf8 as laid. -/
import Derived.Test.YtokcamgipnaoeaaGreatDoorLsD
import Derived.Test.YtokcamgipnaoeaaGreatDoorLsP
import Derived.Shelf.Unicode.DecodeLast
import Derived.Shelf.Strings.Runes
import Derived.Shelf.Strings.AsciiSet
import Derived.Shelf.Small.Utf8
set_option linter.unusedVariables false
set_option linter.unusedSimpArgs false
namespace Go.Proofs.YtokcamgipnaoeaaGreatDoor.Ls
open Go Go.RowKit SL Go.Shelf
attribute [local irreducible] SL.L SL.C SL.D SL.N SL.H SL.QL SL.QW SL.QP

theorem tx_get (a : List UInt8) (k : Nat) : (⟨a.toArray⟩ : ByteArray)[k]? = a[k]? := by
  show (if h : k < a.toArray.size then some (a.toArray[k]) else none) = a[k]?
  split
  · rename_i h
    simp
  · rename_i h
    rw [List.getElem?_eq_none (by simpa using h)]
section
variable {P : Program} {ops : Array Oper} {Q : Exit → Act → World → Prop} {s : St} {E : Env} {M : Hp} {rest : List Oper} {d t : Nat} {pos : String} {af : Array Edge}
theorem _root_.Go.Proofs.YtokcamgipnaoeaaGreatDoor.SL.L.txLen {x : Operand} {a : List UInt8} {T : TypeId} [Und P T .string] (hn : Nat.blt d s.n = true := by exact rfl) (hx : ev E x = some (tx a) := by exact rfl)
    (c : L P ops Q rest s ((d, .int .i64 (a.length : Int)) :: E) M) : L P ops Q (⟨some d, .call { callee := .builtin .len, args := #[x], argTypes := #[T] }, t, pos, af, none⟩ :: rest) s E M :=
  L.lenS (b := ⟨a.toArray⟩) hn hx c
theorem _root_.Go.Proofs.YtokcamgipnaoeaaGreatDoor.SL.L.txAt {T k t : Nat} {x y : Operand} {a : List UInt8} {q : IntKind} {i : Int} {v : UInt8} [Und P T .string] (hi : i = (k : Int)) (hv : a[k]? = some v) (hn : Nat.blt d s.n = true := by exact rfl) (hx : ev E x = some (tx a) := by exact rfl) (hy : ev E y = some (.int q i) := by exact rfl)
    (c : L P ops Q rest s ((d, .int .u8 v.toNat) :: E) M) : L P ops Q (⟨some d, .index T x y, t, pos, af, none⟩ :: rest) s E M :=
  L.indexS (b := ⟨a.toArray⟩) hn hx hy (by omega) (by rw [hi, Int.toNat_natCast, tx_get]; exact hv) c
theorem _root_.Go.Proofs.YtokcamgipnaoeaaGreatDoor.SL.L.txCut {T lo hi : Nat} {x : Operand} {y z : Option Operand} {a r : List UInt8} [Und P T .string] (h1 : lo ≤ hi) (h2 : hi ≤ a.length) (hr : (a.drop lo).take (hi - lo) = r) (hn : Nat.blt d s.n = true := by exact rfl) (hx : ev E x = some (tx a) := by exact rfl)
    (hy : (y = none ∧ lo = 0) ∨ ∃ o q, y = some o ∧ ev E o = some (.int q (lo : Int)) := by first | exact .inl ⟨rfl, rfl⟩ | exact .inr ⟨_, _, rfl, rfl⟩) (hz : (z = none ∧ hi = a.length) ∨ ∃ o q, z = some o ∧ ev E o = some (.int q (hi : Int)) := by first | exact .inl ⟨rfl, rfl⟩ | exact .inr ⟨_, _, rfl, rfl⟩)
    (c : L P ops Q rest s ((d, tx r) :: E) M) : L P ops Q (⟨some d, .slice T x y z none, t, pos, af, none⟩ :: rest) s E M :=
  L.sliceS (b := ⟨a.toArray⟩) hn hx hy hz h1 h2 (by rw [Lib.extract_eq]; show L P ops Q rest s ((d, tx ((a.drop lo).take (hi - lo))) :: E) M; rw [hr]; exact c)
theorem _root_.Go.Proofs.YtokcamgipnaoeaaGreatDoor.SL.L.convR {T T' : TypeId} {x : Operand} {k k' : IntKind} {n : Int} {a : List UInt8} [Und P T (.int k)] [Und P T' .string] (he : Utf8.encode n = ⟨a.toArray⟩) (hn : Nat.blt d s.n = true := by exact rfl) (hx : ev E x = some (.int k' n) := by exact rfl)
    (c : L P ops Q rest s ((d, tx a) :: E) M) : L P ops Q (⟨some d, .convert T T' x, t, pos, af, none⟩ :: rest) s E M :=
  L.calm (S := fun ρ => convert T T' (ρ x)) hn (fun _ => rfl) (fun w' w hs => by
    show (convert T T' (w'.eval x)).run P w = _
    rw [hs.ev hx]
    unfold convert
    rw [run_bind_ok und_run, run_bind_ok und_run]
    show Sem.run P (Conv.intToString n) w = _
    unfold Conv.intToString
    rw [he]; rfl) c
end
/-- Where a rune stands in "+-". -/
def idx2 (r : Int) : Int := if r = 43 then 0 else if r = 45 then 1 else -1
theorem idx2_low (r : Int) (h0 : 0 ≤ r) (h : r < 128) : Lib.indexByte [43, 45] r.toNat.toUInt8 = idx2 r := by
  obtain ⟨n, rfl⟩ := Int.eq_ofNat_of_zero_le h0
  have key : ∀ n : Nat, n < 128 → Lib.indexByte [43, 45] ((n : Int)).toNat.toUInt8 = idx2 n := by decide +kernel
  exact key n (by omega)
theorem byte_S (l : List UInt8) (c : Int) : Ctr Tryz.prog 91 [tx l, .int .u8 c] [] tt (is (.int .i64 (Lib.indexByte l c.toNat.toUInt8)) []) :=
  spec_n (fun w _ => (Any.strings_IndexByte Tryz.byteLay ⟨l.toArray⟩ c w).mono (by rintro e w' ⟨rfl, rfl⟩; exact ⟨rfl, Below.refl _ _⟩))
theorem valid_S (r : Int) (h : Utf8.valid r = true) : Ctr Tryz.prog 92 [.int .i32 r] [] tt (is (.bool true) []) := by
  have e : Lib.validRune r = true := by
    unfold Utf8.valid at h; unfold Lib.validRune
    simp only [Bool.or_eq_true, Bool.and_eq_true, decide_eq_true_eq] at h ⊢
    omega
  rw [← e]
  exact spec_n (fun w _ => (Any.utf8_ValidRune Tryz.validLay r w).mono (by rintro e w' ⟨rfl, rfl⟩; exact ⟨rfl, Below.refl _ _⟩))
set_option maxRecDepth 100000 in
set_option maxHeartbeats 8000000 in
theorem rune_S (r : Int) (h0 : 0 ≤ r) (hv : 128 ≤ r → Utf8.valid r = true) : Ctr Tryz.prog 78 [tx [43, 45], .int .i32 r] [] tt (is (.int .i64 (idx2 r)) []) := by
  rcases Int.lt_or_le r 128 with hlo | hhi
  · rw [← idx2_low r h0 hlo]
    exact spec_n (fun w _ => (Any.strings_IndexRune_ascii Tryz.runeLay ⟨#[43, 45]⟩ r w h0 hlo).mono (by rintro e w' ⟨rfl, rfl⟩; exact ⟨rfl, Below.refl _ _⟩))
  have hI : idx2 r = -1 := by unfold idx2; rw [if_neg (by omega), if_neg (by omega)]
  rw [hI]
  have c1 : cm .leq 0 r = true := cm_le h0
  have c2 : cm .lss r 128 = false := cm_lo' hhi
  refine Ctr.enter Tryz.func78 Tryz.ntmps78 rfl rfl (fun w _ => ?_)
  by_cases h3 : r = 65533
  · have c3 : cm .eql r 65533 = true := cm_yes h3
    repeat (first | refine C.seq ?_ | refine C.region ?_ | refine L.nil ?_ | refine D.seq ?_ | refine L.move (k := ?_) | refine L.assign (k := ?_) | refine L.cm (c := ?_) | refine C.yes (h1 := ?_) | refine C.no (h1 := ?_) | refine L.pickT (k := ?_) | refine L.want (k := ?_) | refine C.block ?_ | (refine L.rangeS (c := ?_); intro kk))
    refine C.loop (α := Nat) (fun k => k ≤ 2) (fun k => [(175, .pointer (some ⟨kk, 0, none⟩))]) (fun k => [(kk, .stringIter ⟨#[43, 45]⟩ k)]) (fun k => 2 - k) 0
      (fun a w hs => hs.lessE rfl (lk_cons rfl (fun _ _ h => lk_nil h))) (by omega) ?_
    intro k hk
    have hd0 : Utf8.decode ⟨#[43, 45]⟩ 0 = (43, 1) := by decide
    have hd1 : Utf8.decode ⟨#[43, 45]⟩ 1 = (45, 1) := by decide
    have hs2 : (⟨#[43, 45]⟩ : ByteArray).size = 2 := rfl
    have c4 : cm .eql ((43 : Nat) : Int) 65533 = false := rfl
    have c5 : cm .eql ((45 : Nat) : Int) 65533 = false := rfl
    rcases (by omega : k = 0 ∨ k = 1 ∨ k = 2) with rfl | rfl | rfl
    · repeat (first | refine C.seq ?_ | refine C.region ?_ | refine L.nil ?_ | refine D.seq ?_ | refine L.move (k := ?_) | refine L.assign (k := ?_) | refine L.cm (c := ?_) | refine L.extract (c := ?_) | refine C.yes (h1 := ?_) | refine C.no (h1 := ?_) | refine C.block ?_ | refine D.blkNormal ?_ | refine C.skip ?_ | refine L.nextS 0 (hlt := by rw [hs2]; omega) (hd := hd0) (k := ?_))
      exact D.then_ fun a1 w1 hs => ⟨1, by omega, by omega, hs.lessE rfl (lk_cons rfl (fun _ _ h => lk_nil h))⟩
    · repeat (first | refine C.seq ?_ | refine C.region ?_ | refine L.nil ?_ | refine D.seq ?_ | refine L.move (k := ?_) | refine L.assign (k := ?_) | refine L.cm (c := ?_) | refine L.extract (c := ?_) | refine C.yes (h1 := ?_) | refine C.no (h1 := ?_) | refine C.block ?_ | refine D.blkNormal ?_ | refine C.skip ?_ | refine L.nextS 0 (hlt := by rw [hs2]; omega) (hd := hd1) (k := ?_))
      exact D.then_ fun a1 w1 hs => ⟨2, by omega, by omega, hs.lessE rfl (lk_cons rfl (fun _ _ h => lk_nil h))⟩
    · repeat (first | refine C.seq ?_ | refine C.region ?_ | refine L.nil ?_ | refine D.seq ?_ | refine L.assign (k := ?_) | refine L.extract (c := ?_) | refine C.no (h1 := ?_) | refine C.ret ?_ | refine D.blkRet ?_ | refine C.exit ?_ | refine D.thenExit ?_ | refine D.blkExit ?_ | refine L.nextE 0 (hge := by rw [hs2]; omega) (k := ?_))
      (refine D.ret (vs := [_]) (RV.tmp rfl RV.nil) ?_; intro w' hw; exact Post.mk (is := []) hw List.nodup_nil rfl ⟨rfl, rfl⟩)
  · have c3 : cm .eql r 65533 = false := cm_no h3
    have hV := valid_S r (hv hhi)
    obtain ⟨l, hl, hl2, hl4, hlb⟩ := enc_high r hhi (hv hhi)
    repeat (first | refine L.txLen (c := ?_) | refine C.seq ?_ | refine C.region ?_ | refine L.nil ?_ | refine D.seq ?_ | refine L.move (k := ?_) | refine L.assign (k := ?_) | refine L.cm (c := ?_) | refine C.no (h1 := ?_) | refine L.pickT (k := ?_) | refine L.want (k := ?_) | refine L.not (c := ?_) | refine C.block ?_ | refine L.callQ (hV) (k := ?_) | refine L.convR hl (c := ?_))
    refine C.scope (α := Unit) 1 (fun _ => False) (fun _ => []) (fun _ => []) (fun _ => 0) (first := ?_) (pass := fun _ h => h.elim)
    have d1 : ar .sub .i64 (l.length : Int) 1 = ((l.length - 1 : Nat) : Int) := i64_sub (b := 1) (by omega) (by omega)
    repeat (first | refine L.txLen (c := ?_) | refine C.seq ?_ | refine C.region ?_ | refine L.nil ?_ | refine D.seq ?_ | refine L.move (k := ?_) | refine L.assign (k := ?_) | refine L.ar (c := ?_) | refine C.block ?_ | refine L.convR hl (c := ?_))
    refine C.loop (α := Unit) (fun _ => True) (fun _ => [(0, tx [43, 45]), (7, tx l), (8, .int .i64 ((l.length - 1 : Nat) : Int)), (9, .int .i64 ((l.length - 1 : Nat) : Int))]) (fun _ => []) (fun _ => 0) ()
      (fun a w hs => hs.lessE rfl (lk_cons rfl (lk_cons rfl (lk_cons rfl (lk_cons rfl (fun _ _ h => lk_nil h)))))) trivial ?_
    intro _ _
    dsimp only
    rcases (by omega : l.length = 2 ∨ 3 ≤ l.length) with h2 | h2
    · obtain ⟨x, y, rfl⟩ : ∃ x y, l = [x, y] := by
        match l, h2 with
        | [x, y], _ => exact ⟨x, y, rfl⟩
      have hy := hlb y (by simp)
      have c4 : cm .lss (([x, y].length - 1 : Nat) : Int) (([43, 45] : List UInt8).length : Int) = true := rfl
      have c5 : cm .neq (((45 : UInt8).toNat : Nat) : Int) (y.toNat : Int) = true := cm_ne (by show (45 : Int) ≠ _; omega)
      have hb := byte_S [] (y.toNat : Int)
      have hb2 : Lib.indexByte [] ((y.toNat : Nat) : Int).toNat.toUInt8 = -1 := rfl
      rw [hb2] at hb
      have c6 : cm .lss (-1) 0 = true := rfl
      have d2 : ar .add .i64 (([x, y].length - 1 : Nat) : Int) 1 = ((2 : Nat) : Int) := rfl
      repeat (first | refine L.txLen (c := ?_) | refine C.seq ?_ | refine C.region ?_ | refine L.nil ?_ | refine D.seq ?_ | refine L.move (k := ?_) | refine L.cm (c := ?_) | refine C.yes (h1 := ?_) | refine C.block ?_ | refine C.skip ?_)
      refine C.scope (α := Unit) 0 (fun _ => False) (fun _ => []) (fun _ => []) (fun _ => 0) (first := ?_) (pass := fun _ h => h.elim)
      repeat' (first | refine L.txLen (c := ?_) | refine D.jumpRet ?_ | refine C.seq ?_ | refine C.region ?_ | refine L.nil ?_ | refine D.seq ?_ | refine L.move (k := ?_) | refine L.assign (k := ?_) | refine L.cm (c := ?_) | refine L.ar (c := ?_) | refine C.yes (h1 := ?_) | refine C.ret ?_ | refine D.thenRet ?_ | refine D.blkRet ?_ | exact D.endsQ | refine QL.fin ?_ | refine C.quiet (h := ?_) | (refine QL.step (v := ?_) (by exact rfl) (by exact rfl) ?_ ?_; rotate_left) | refine L.txAt (k := 1) (a := [43, 45]) (v := 45) rfl rfl (c := ?_) | refine L.txAt (k := 1) (a := [x, y]) (v := y) rfl rfl (c := ?_) | refine L.txCut (a := [43, 45]) (lo := 2) (hi := 2) (r := []) (by decide) (by decide) rfl (c := ?_) | refine L.callQ (hb) (k := ?_))
      (refine D.ret (vs := [_]) (RV.tmp rfl RV.nil) ?_; intro w' hw; exact Post.mk (is := []) hw List.nodup_nil rfl ⟨rfl, rfl⟩)
    · have c4 : cm .lss ((l.length - 1 : Nat) : Int) (([43, 45] : List UInt8).length : Int) = false := cm_lo' (by show (2 : Int) ≤ _; omega)
      repeat (first | refine L.txLen (c := ?_) | refine C.seq ?_ | refine C.region ?_ | refine L.nil ?_ | refine D.seq ?_ | refine L.move (k := ?_) | refine L.assign (k := ?_) | refine L.cm (c := ?_) | refine C.no (h1 := ?_) | refine C.ret ?_ | refine D.thenRet ?_ | refine D.blkRet ?_ | refine C.exit ?_ | refine D.thenExit ?_ | refine D.blkExit ?_ | refine D.seqR (h := ?_) | refine D.jumpRet ?_)
      (refine D.ret (vs := [_]) (RV.tmp rfl RV.nil) ?_; intro w' hw; exact Post.mk (is := []) hw List.nodup_nil rfl ⟨rfl, rfl⟩)
/-- The set of + and -. -/
def aset : List Value := (Lib.setCells [43, 45]).toList
theorem aset_len : aset.length = 256 := by unfold aset; rw [Array.length_toList, Lib.setCells_size]
theorem aset_at (x : UInt8) : aset[x.toNat]? = some (.bool (pm x)) := by
  unfold aset
  rw [Array.getElem?_toList, Lib.setCells_at]
  refine congrArg some (congrArg Value.bool (Bool.eq_iff_iff.2 ?_))
  unfold pm
  simp
theorem aset_one : aset.all oneB = true := by decide +kernel
theorem aset_agg : Value.agg (Lib.setCells [43, 45]) = .agg aset.toArray := by unfold aset; rw [Array.toArray_toList]
attribute [local irreducible] aset
theorem setL_whole : ∀ (vs pre l : List Value), l.length = vs.length → setL (pre ++ l) pre.length vs = pre ++ vs
  | [], pre, l, h => by obtain rfl := List.eq_nil_of_length_eq_zero h; rfl
  | v :: vs, pre, l, h => by
    obtain ⟨a, l, rfl⟩ : ∃ a r, l = a :: r := by cases l with
      | nil => cases h
      | cons a r => exact ⟨a, r, rfl⟩
    show setL ((pre ++ a :: l).set pre.length v) (pre.length + 1) vs = _
    have e : (pre ++ a :: l).set pre.length v = (pre ++ [v]) ++ l := by
      rw [List.set_append_right _ _ (Nat.le_refl _), Nat.sub_self]; simp
    rw [e]
    have := setL_whole vs (pre ++ [v]) l (by simpa using h)
    rw [List.length_append] at this
    rw [show pre.length + 1 = pre.length + [v].length from rfl, this]; simp
instance zerSet : Zer Tryz.prog 108 (.agg (List.replicate 256 (Value.bool false)).toArray) (List.replicate 256 (.bool false)) := ⟨by kernel_rfl, rfl⟩
theorem ascii_S : Ctr Tryz.prog 80 [tx [43, 45]] [] tt (is (shut [.agg aset.toArray, .bool true]) []) := by
  rw [← aset_agg]
  exact spec_n (fun w _ => (Any.strings_makeASCIISet Tryz.asciiLay (fun w => by kernel_rfl) (by kernel_rfl) ⟨#[43, 45]⟩ w (by decide) (fun j b hb => by
    have : b = 43 ∨ b = 45 := by
      have := List.mem_of_getElem? hb
      simpa using this
    rcases this with rfl | rfl <;> decide)).mono (by rintro e w' ⟨rfl, rfl⟩; exact ⟨rfl, (Below.refl _ _).alloc (Nat.le_refl _) _⟩))
theorem contains_S (b : Nat) (x : UInt8) : Ctr Tryz.prog 81 [.pointer (some ⟨b, 0, none⟩), .int .u8 x.toNat] [] (fun w => w.cell? ⟨b, x.toNat, none⟩ = some (.bool (pm x))) (is (.bool (pm x)) []) :=
  spec_n (fun w hc => (Any.asciiSet_contains Tryz.containsLay b x (pm x) w hc).mono (by rintro e w' ⟨rfl, rfl⟩; exact ⟨rfl, Below.refl _ _⟩))
theorem should_S (n : Int) : Ctr Tryz.prog 79 [.int .i64 n] [] tt (is (.bool (cm .gtr n 8)) []) := by
  refine Ctr.enter Tryz.func79 Tryz.ntmps79 rfl rfl (fun w _ => ?_)
  repeat (first | refine C.seq ?_ | refine C.region ?_ | refine L.nil ?_ | refine D.seq ?_ | refine L.move (k := ?_) | refine L.assign (k := ?_) | refine L.cm (c := ?_) | refine C.ret ?_)
  (refine D.ret (vs := [_]) (RV.tmp rfl RV.nil) ?_; intro w' hw; exact Post.mk (is := []) hw List.nodup_nil rfl ⟨rfl, rfl⟩)
/-- The tables of unicode/utf8, as laid. -/
def Utf (w : World) : Prop := Lib.Utf8Tabs (Tryz.lastLay_ren.g 3) (Tryz.lastLay_ren.g 4) w
theorem Utf.bel {w w' : World} {M : Hp} (h : Utf w) (hw : At w [] M w') : Utf w' := Utf8Tabs_below h hw.keeps.below
theorem last_S (l : List UInt8) (h : l.length ≤ 1000000) : Ctr Tryz.prog 82 [tx l] [] Utf (is (shut [.int .i32 (Lib.decodeLastL l).1, .int .i64 (Lib.decodeLastL l).2]) []) :=
  spec_n (fun w hw => (Any.utf8_DecodeLastRuneInString Tryz.lastLay ⟨l.toArray⟩ w (by show l.length ≤ _; omega) hw).mono (by rintro e w' ⟨rfl, hb⟩; exact ⟨rfl, hb⟩))
section
variable {P : Program} {ops : Array Oper} {Q : Exit → Act → World → Prop} {s : St} {E : Env} {M : Hp} {rest : List Oper} {d t : Nat} {pos : String} {af : Array Edge}
theorem _root_.Go.Proofs.YtokcamgipnaoeaaGreatDoor.SL.L.storeW (i : Nat) {x y : Operand} {T T' b n : Nat} {l vs : List Value} [hz : Siz P T n] (hl : l.length = n) (hvl : vs.length = n) (ho : vs.all oneB = true) (hx : ev E x = some (.pointer (some ⟨b, 0, none⟩)) := by exact rfl) (hy : ev E y = some (.agg vs.toArray) := by exact rfl) (hi : hat M i = some (b, ob l T') := by exact rfl)
    {M' : Hp} (hM : hset M i (ob vs T') = M' := by simp only [hset]; rfl) (c : L P ops Q rest s E M') : L P ops Q (⟨none, .store T x y, t, pos, af, none⟩ :: rest) s E M :=
  L.storeV i (vs := vs) hx hy hi rfl hvl ho (Nat.ble_eq_true_of_le (by omega)) (setL_whole vs [] l (by omega)) hM c
end
theorem sub1 {n : Nat} (h : n ≤ 2000000) : ar .sub .i64 (n : Int) 1 = (n : Int) - 1 := by
  show IntKind.i64.wrap _ = _
  rw [IntKind.wrap_i64]; omega
theorem sub2 {n : Nat} (h : n ≤ 2000000) : ar .sub .i64 (((n + 1 : Nat) : Int) - 1) 1 = (n : Int) - 1 := by
  show IntKind.i64.wrap _ = _
  rw [IntKind.wrap_i64]; omega
set_option maxRecDepth 100000 in
set_option maxHeartbeats 8000000 in
theorem lastAny_S (l : List UInt8) (hl : l.length ≤ 1000000) : Ctr Tryz.prog 67 [tx l, tx [43, 45]] [] Utf (is (.int .i64 (lastS l l.length)) []) := by
  refine Ctr.enter Tryz.func67 Tryz.ntmps67 rfl rfl (fun w hu => ?_)
  have hz0 : seq (⟨([43, 45] : List UInt8).toArray⟩ : ByteArray) ⟨#[]⟩ = false := by decide +kernel
  by_cases h1 : l.length = 1
  · obtain ⟨x, rfl⟩ : ∃ x, l = [x] := by
      match l, h1 with
      | [x], _ => exact ⟨x, rfl⟩
    have c1 : cm .eql (([x] : List UInt8).length : Int) 1 = true := rfl
    have hw32 : IntKind.i32.wrap (x.toNat : Int) = x.toNat := by have := UInt8.toNat_lt x; rw [IntKind.wrap_i32]; omega
    rcases Nat.lt_or_ge x.toNat 128 with hlo | hhi
    · have c2 : cm .geq (x.toNat : Int) 128 = false := cm_ge' (by omega)
      have hR := rune_S (x.toNat : Int) (by omega) (fun h => by omega)
      cases hp : pm x with
      | true =>
        have c3 : cm .geq (idx2 (x.toNat : Int)) 0 = true := by
          unfold pm at hp
          have : x = 43 ∨ x = 45 := by simpa using hp
          rcases this with rfl | rfl <;> rfl
        have hS : lastS [x] [x].length = 0 := by show (if pm x then (0 : Int) else -1) = 0; rw [hp]; rfl
        rw [hS]
        repeat (first | refine L.txLen (c := ?_) | refine L.convI (hz := hw32) (c := ?_) | refine C.seq ?_ | refine C.region ?_ | refine L.nil ?_ | refine D.seq ?_ | refine L.move (k := ?_) | refine L.assign (k := ?_) | refine L.cm (c := ?_) | refine C.yes (h1 := ?_) | refine C.no (h1 := ?_) | refine L.strEq (c := ?_) | refine C.ret ?_ | refine D.thenRet ?_ | refine C.skip ?_ | refine L.txAt (k := 0) (a := [x]) (v := x) rfl rfl (c := ?_) | refine L.callQ (hR) (k := ?_))
        (refine D.ret (vs := [_]) (RV.tmp rfl RV.nil) ?_; intro w' hw; exact Post.mk (is := []) hw List.nodup_nil rfl ⟨rfl, rfl⟩)
      | false =>
        have c3 : cm .geq (idx2 (x.toNat : Int)) 0 = false := by
          unfold pm at hp
          have : x ≠ 43 ∧ x ≠ 45 := by simpa using hp
          have e1 : (x.toNat : Int) ≠ 43 := fun e => this.1 (UInt8.toNat_inj.1 (by show x.toNat = 43; omega))
          have e2 : (x.toNat : Int) ≠ 45 := fun e => this.2 (UInt8.toNat_inj.1 (by show x.toNat = 45; omega))
          unfold idx2; rw [if_neg e1, if_neg e2]; rfl
        have hS : lastS [x] [x].length = -1 := by show (if pm x then (0 : Int) else -1) = -1; rw [hp]; rfl
        rw [hS]
        repeat (first | refine L.txLen (c := ?_) | refine L.convI (hz := hw32) (c := ?_) | refine C.seq ?_ | refine C.region ?_ | refine L.nil ?_ | refine D.seq ?_ | refine L.move (k := ?_) | refine L.assign (k := ?_) | refine L.cm (c := ?_) | refine C.yes (h1 := ?_) | refine C.no (h1 := ?_) | refine L.strEq (c := ?_) | refine C.ret ?_ | refine D.thenRet ?_ | refine C.skip ?_ | refine L.txAt (k := 0) (a := [x]) (v := x) rfl rfl (c := ?_) | refine L.callQ (hR) (k := ?_))
        (refine D.ret (vs := [_]) (RV.tmp rfl RV.nil) ?_; intro w' hw; exact Post.mk (is := []) hw List.nodup_nil rfl ⟨rfl, rfl⟩)
    · have c2 : cm .geq (x.toNat : Int) 128 = true := cm_ge (by omega)
      have hR := rune_S 65533 (by omega) (fun h => by decide)
      have c3 : cm .geq (idx2 65533) 0 = false := rfl
      have hS : lastS [x] [x].length = -1 := by show (if pm x then (0 : Int) else -1) = -1; rw [pm_high hhi]; rfl
      rw [hS]
      repeat (first | refine L.txLen (c := ?_) | refine L.convI (hz := hw32) (c := ?_) | refine C.seq ?_ | refine C.region ?_ | refine L.nil ?_ | refine D.seq ?_ | refine L.move (k := ?_) | refine L.assign (k := ?_) | refine L.cm (c := ?_) | refine C.yes (h1 := ?_) | refine C.no (h1 := ?_) | refine L.strEq (c := ?_) | refine C.ret ?_ | refine D.thenRet ?_ | refine C.skip ?_ | refine L.txAt (k := 0) (a := [x]) (v := x) rfl rfl (c := ?_) | refine L.callQ (hR) (k := ?_))
      (refine D.ret (vs := [_]) (RV.tmp rfl RV.nil) ?_; intro w' hw; exact Post.mk (is := []) hw List.nodup_nil rfl ⟨rfl, rfl⟩)
  have c1 : cm .eql (l.length : Int) 1 = false := cm_no (by omega)
  have hSh := should_S (l.length : Int)
  rcases Nat.lt_or_ge 8 l.length with h8 | h8
  · have c2 : cm .gtr (l.length : Int) 8 = true := cm_gt (by omega)
    rw [c2] at hSh
    have d1 := sub1 (n := l.length) (by omega)
    repeat (first | refine L.txLen (c := ?_) | refine C.seq ?_ | refine C.region ?_ | refine L.nil ?_ | refine D.seq ?_ | refine L.move (k := ?_) | refine L.assign (k := ?_) | refine L.cm (c := ?_) | refine L.extract (c := ?_) | refine L.alloc (c := fun _ => ?_) | refine C.yes (h1 := ?_) | refine C.no (h1 := ?_) | refine L.strEq (c := ?_) | refine C.skip ?_ | refine L.callQ (hSh) (k := ?_) | refine L.callQ (ascii_S) (k := ?_))
    rename_i bb
    refine L.storeW 0 (vs := aset) (l := List.replicate 256 (Value.bool false)) (List.length_replicate) aset_len aset_one (c := ?_)
    repeat (first | refine L.txLen (c := ?_) | refine C.seq ?_ | refine C.region ?_ | refine L.nil ?_ | refine D.seq ?_ | refine L.move (k := ?_) | refine L.assign (k := ?_) | refine L.ar (c := ?_) | refine C.yes (h1 := ?_) | refine C.block ?_)
    refine C.loop (α := Nat) (fun n => n ≤ l.length ∧ lastS l l.length = lastS l n) (fun n => [(0, tx l), (6, .pointer (some ⟨bb, 0, none⟩)), (8, .int .i64 ((n : Int) - 1))]) (fun n => [(bb, ob aset 108)]) (fun n => n) l.length
      (fun a w hs => hs.lessE rfl (lk_cons rfl (lk_cons rfl (lk_cons rfl (fun _ _ h => lk_nil h))))) ⟨Nat.le_refl _, rfl⟩ ?_
    rintro n ⟨hn, hnS⟩
    dsimp only
    cases n with
    | zero =>
      have c4 : cm .geq (((0 : Nat) : Int) - 1) 0 = false := rfl
      have hS : lastS l l.length = -1 := hnS
      rw [hS]
      repeat (first | refine L.txLen (c := ?_) | refine C.seq ?_ | refine C.region ?_ | refine L.nil ?_ | refine D.seq ?_ | refine L.move (k := ?_) | refine L.assign (k := ?_) | refine L.cm (c := ?_) | refine C.no (h1 := ?_) | refine C.ret ?_ | refine D.thenRet ?_ | refine C.exit ?_ | refine D.thenExit ?_ | refine D.blkExit ?_ | refine D.seqR (h := ?_))
      (refine D.ret (vs := [_]) (RV.tmp rfl RV.nil) ?_; intro w' hw; exact Post.mk (is := []) hw List.nodup_nil rfl ⟨rfl, rfl⟩)
    | succ n =>
      have c4 : cm .geq (((n + 1 : Nat) : Int) - 1) 0 = true := cm_ge (by omega)
      have hx : l[n]? = some (l.getD n 0) := by rw [List.getD_eq_getElem?_getD, List.getElem?_eq_getElem (by omega : n < l.length)]; rfl
      have hi : (((n + 1 : Nat) : Int) - 1) = (n : Int) := by omega
      have hC := contains_S bb (l.getD n 0)
      have hpC : ∀ w' : World, At w (keys []) [(bb, ob aset 108)] w' → w'.cell? ⟨bb, (l.getD n 0).toNat, none⟩ = some (.bool (pm (l.getD n 0))) := fun w' hw => cell_ob (hw.holds _ List.mem_cons_self) (aset_at _)
      have d2 := sub2 (n := n) (by omega)
      cases hp : pm (l.getD n 0) with
      | true =>
        have hS : lastS l l.length = ((n + 1 : Nat) : Int) - 1 := by rw [hnS, hi]; show (if pm (l.getD n 0) then (n : Int) else lastS l n) = n; rw [hp]; rfl
        rw [hS]
        rw [hp] at hC hpC
        repeat (first | refine L.txLen (c := ?_) | refine C.seq ?_ | refine C.region ?_ | refine L.nil ?_ | refine D.seq ?_ | refine L.move (k := ?_) | refine L.assign (k := ?_) | refine L.cm (c := ?_) | refine C.yes (h1 := ?_) | refine C.block ?_ | refine C.ret ?_ | refine D.thenRet ?_ | refine D.blkRet ?_ | refine C.skip ?_ | refine L.txAt (k := n) (a := l) (v := l.getD n 0) hi hx (c := ?_) | refine L.callQ hC (hpre := hpC) (k := ?_))
        (refine D.ret (vs := [_]) (RV.tmp rfl RV.nil) ?_; intro w' hw; exact Post.mk (is := []) hw List.nodup_nil rfl ⟨rfl, rfl⟩)
      | false =>
        have hS : lastS l (n + 1) = lastS l n := by show (if pm (l.getD n 0) then (n : Int) else lastS l n) = _; rw [hp]; rfl
        rw [hp] at hC hpC
        repeat (first | refine L.txLen (c := ?_) | refine C.seq ?_ | refine C.region ?_ | refine L.nil ?_ | refine D.seq ?_ | refine L.move (k := ?_) | refine L.assign (k := ?_) | refine L.cm (c := ?_) | refine L.ar (c := ?_) | refine C.yes (h1 := ?_) | refine C.no (h1 := ?_) | refine C.block ?_ | refine D.blkNormal ?_ | refine C.skip ?_ | refine L.txAt (k := n) (a := l) (v := l.getD n 0) hi hx (c := ?_) | refine L.callQ hC (hpre := hpC) (k := ?_))
        exact D.then_ fun a1 w1 hs => ⟨n, ⟨by omega, by rw [hnS, hS]⟩, by omega, hs.lessE rfl (lk_cons rfl (lk_cons rfl (lk_cons rfl (fun _ _ h => lk_nil h))))⟩
  · have c2 : cm .gtr (l.length : Int) 8 = false := cm_gt' (by omega)
    rw [c2] at hSh
    have c3 : cm .eql (([43, 45] : List UInt8).length : Int) 1 = false := rfl
    repeat (first | refine L.txLen (c := ?_) | refine C.seq ?_ | refine C.region ?_ | refine L.nil ?_ | refine D.seq ?_ | refine L.move (k := ?_) | refine L.assign (k := ?_) | refine L.cm (c := ?_) | refine C.no (h1 := ?_) | refine L.strEq (c := ?_) | refine C.block ?_ | refine C.skip ?_ | refine L.callQ (hSh) (k := ?_))
    refine C.loop (α := Nat) (fun n => n ≤ l.length ∧ lastS l l.length = lastS l n) (fun n => [(0, tx l), (1, tx [43, 45]), (13, .int .i64 (n : Int))]) (fun n => []) (fun n => n) l.length
      (fun a w hs => hs.lessE rfl (lk_cons rfl (lk_cons rfl (lk_cons rfl (fun _ _ h => lk_nil h))))) ⟨Nat.le_refl _, rfl⟩ ?_
    rintro n ⟨hn, hnS⟩
    dsimp only
    cases n with
    | zero =>
      have c4 : cm .gtr ((0 : Nat) : Int) 0 = false := rfl
      have hS : lastS l l.length = -1 := hnS
      rw [hS]
      repeat (first | refine L.txLen (c := ?_) | refine C.seq ?_ | refine C.region ?_ | refine L.nil ?_ | refine D.seq ?_ | refine L.move (k := ?_) | refine L.assign (k := ?_) | refine L.cm (c := ?_) | refine C.no (h1 := ?_) | refine C.ret ?_ | refine C.exit ?_ | refine D.thenExit ?_ | refine D.blkExit ?_ | refine D.seqR (h := ?_))
      (refine D.ret (vs := [_]) (RV.tmp rfl RV.nil) ?_; intro w' hw; exact Post.mk (is := []) hw List.nodup_nil rfl ⟨rfl, rfl⟩)
    | succ n =>
      have c4 : cm .gtr ((n + 1 : Nat) : Int) 0 = true := cm_gt (by omega)
      have hLs := last_S (l.take (n + 1)) (by rw [List.length_take]; omega)
      rcases Nat.lt_or_ge (l.getD n 0).toNat 128 with hlo | hhi
      · rw [last_low l n (by omega) hlo] at hLs
        have hR := rune_S ((l.getD n 0).toNat : Int) (by omega) (fun h => by omega)
        have d2 : ar .sub .i64 ((n + 1 : Nat) : Int) ((1 : Nat) : Int) = ((n : Nat) : Int) := i64_sub (a := n + 1) (b := 1) (by omega) (by omega)
        cases hp : pm (l.getD n 0) with
        | true =>
          have c5 : cm .geq (idx2 ((l.getD n 0).toNat : Int)) 0 = true := by
            unfold pm at hp
            have : l.getD n 0 = 43 ∨ l.getD n 0 = 45 := by simpa using hp
            rcases this with e | e <;> rw [e] <;> rfl
          have hS : lastS l l.length = (n : Int) := by rw [hnS]; show (if pm (l.getD n 0) then (n : Int) else lastS l n) = n; rw [hp]; rfl
          rw [hS]
          repeat (first | refine L.txLen (c := ?_) | refine C.seq ?_ | refine C.region ?_ | refine L.nil ?_ | refine D.seq ?_ | refine L.move (k := ?_) | refine L.assign (k := ?_) | refine L.cm (c := ?_) | refine L.ar (c := ?_) | refine L.extract (c := ?_) | refine C.yes (h1 := ?_) | refine C.block ?_ | refine C.ret ?_ | refine D.thenRet ?_ | refine D.blkRet ?_ | refine C.skip ?_ | refine L.txCut (a := l) (lo := 0) (hi := n + 1) (Nat.zero_le _) (by omega) (by rw [List.drop_zero, Nat.sub_zero]) (c := ?_) | refine L.callQ hLs (hpre := fun _ hw => hu.bel hw) (k := ?_) | refine L.callQ (hR) (k := ?_))
          (refine D.ret (vs := [_]) (RV.tmp rfl RV.nil) ?_; intro w' hw; exact Post.mk (is := []) hw List.nodup_nil rfl ⟨rfl, rfl⟩)
        | false =>
          have c5 : cm .geq (idx2 ((l.getD n 0).toNat : Int)) 0 = false := by
            unfold pm at hp
            have : l.getD n 0 ≠ 43 ∧ l.getD n 0 ≠ 45 := by simpa using hp
            have e1 : ((l.getD n 0).toNat : Int) ≠ 43 := fun e => this.1 (UInt8.toNat_inj.1 (by show (l.getD n 0).toNat = 43; omega))
            have e2 : ((l.getD n 0).toNat : Int) ≠ 45 := fun e => this.2 (UInt8.toNat_inj.1 (by show (l.getD n 0).toNat = 45; omega))
            unfold idx2; rw [if_neg e1, if_neg e2]; rfl
          have hS : lastS l (n + 1) = lastS l n := by show (if pm (l.getD n 0) then (n : Int) else lastS l n) = _; rw [hp]; rfl
          repeat (first | refine L.txLen (c := ?_) | refine C.seq ?_ | refine C.region ?_ | refine L.nil ?_ | refine D.seq ?_ | refine L.move (k := ?_) | refine L.assign (k := ?_) | refine L.cm (c := ?_) | refine L.ar (c := ?_) | refine L.extract (c := ?_) | refine C.yes (h1 := ?_) | refine C.no (h1 := ?_) | refine C.block ?_ | refine D.blkNormal ?_ | refine C.skip ?_ | refine L.txCut (a := l) (lo := 0) (hi := n + 1) (Nat.zero_le _) (by omega) (by rw [List.drop_zero, Nat.sub_zero]) (c := ?_) | refine L.callQ hLs (hpre := fun _ hw => hu.bel hw) (k := ?_) | refine L.callQ (hR) (k := ?_))
          exact D.then_ fun a1 w1 hs => ⟨n, ⟨by omega, by rw [hnS, hS]⟩, by omega, hs.lessE rfl (lk_cons rfl (lk_cons rfl (lk_cons rfl (fun _ _ h => lk_nil h))))⟩
      · obtain ⟨q1, q2, q3, q4, q5⟩ := last_high l n (by omega) hhi
        generalize Lib.decodeLastL (l.take (n + 1)) = rk at *
        obtain ⟨r, k⟩ := rk
        simp only at q1 q2 q3 q4 q5 hLs
        have hR := rune_S (r : Int) (by omega) (fun h => q2)
        have d2 : ar .sub .i64 ((n + 1 : Nat) : Int) ((k : Nat) : Int) = ((n + 1 - k : Nat) : Int) := i64_sub q4 (by omega)
        have c5 : cm .geq (idx2 (r : Int)) 0 = false := by unfold idx2; rw [if_neg (by omega), if_neg (by omega)]; rfl
        have hS : lastS l (n + 1) = lastS l (n + 1 - k) := lastS_skip l (n + 1 - k) (n + 1) (by omega) q5
        repeat (first | refine L.txLen (c := ?_) | refine C.seq ?_ | refine C.region ?_ | refine L.nil ?_ | refine D.seq ?_ | refine L.move (k := ?_) | refine L.assign (k := ?_) | refine L.cm (c := ?_) | refine L.ar (c := ?_) | refine L.extract (c := ?_) | refine C.yes (h1 := ?_) | refine C.no (h1 := ?_) | refine C.block ?_ | refine D.blkNormal ?_ | refine C.skip ?_ | refine L.txCut (a := l) (lo := 0) (hi := n + 1) (Nat.zero_le _) (by omega) (by rw [List.drop_zero, Nat.sub_zero]) (c := ?_) | refine L.callQ hLs (hpre := fun _ hw => hu.bel hw) (k := ?_) | refine L.callQ (hR) (k := ?_))
        exact D.then_ fun a1 w1 hs => ⟨n + 1 - k, ⟨by omega, by rw [hnS, hS]⟩, by omega, hs.lessE rfl (lk_cons rfl (lk_cons rfl (lk_cons rfl (fun _ _ h => lk_nil h))))⟩
end Go.Proofs.YtokcamgipnaoeaaGreatDoor.Ls
