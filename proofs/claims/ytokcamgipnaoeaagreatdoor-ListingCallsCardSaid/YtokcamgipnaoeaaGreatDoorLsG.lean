/- Listing: read, fill: what they answer. Conditions: the library's tables and errors as laid. -/
import Derived.Test.YtokcamgipnaoeaaGreatDoorLsF
set_option linter.unusedVariables false
set_option linter.unusedSimpArgs false
namespace Go.Proofs.YtokcamgipnaoeaaGreatDoor.Ls
open Go Go.RowKit SL Go.Shelf
attribute [local irreducible] SL.L SL.C SL.D SL.N SL.H SL.QL SL.QW SL.QP

/-- The place between brackets. -/
def insP (l : List UInt8) : Opd := .m (insB (insA l (lastS l l.length)).2).1 (insB (insA l (lastS l l.length)).2).2.1 (insB (insA l (lastS l l.length)).2).2.2 (insA l (lastS l l.length)).1
theorem insP_val (l : List UInt8) : (insP l).val = .iface 79 (insM l) := rfl
def brk (l : List UInt8) : Bool := Lib.hasPrefix l [91] && Lib.hasSuffix l [93] && decide (1 < l.length)
/-- What read reads. -/
def readR (l : List UInt8) : Option Opd :=
  if 0 ≤ regOf l then some (.r (regOf l)) else if brk l then some (insP ((l.drop 1).take (l.length - 1 - 1))) else if parOk l then (if l.getD 0 0 = 43 ∨ l.getD 0 0 = 45 then some (.j (parI l)) else some (.n (parI l))) else none
def opdV : Option Opd → Value
  | some x => x.val
  | none => .nilIface
theorem parOk_nil : parOk [] = false := rfl
set_option maxRecDepth 100000 in
set_option maxHeartbeats 8000000 in
theorem read_S (l : List UInt8) (hl : l.length ≤ 1000000) : Ctr Tryz.prog 31 [tx l] [] Lw (two (opdV (readR l)) (.bool (readR l).isSome)) := by
  have hR := registers_S l
  unfold readR
  generalize regOf l = r at *
  refine Ctr.enter Tryz.func31 Tryz.ntmps31 rfl rfl (fun w hx => ?_)
  repeat (first | refine C.seq ?_ | refine C.region ?_ | refine L.nil ?_ | refine D.seq ?_ | refine L.move (k := ?_) | refine L.assign (k := ?_) | refine L.cm (c := ?_) | refine L.callQ (hR) (k := ?_))
  refine C.joinK (fun _ : Unit => ¬ 0 ≤ r) (fun _ => [(0, tx l)]) (fun _ => []) ?_ ?_
  · refine C.condE (h1 := fun hc => ?_) (h2 := fun hc => ?_)
    · have hp : 0 ≤ r := by have : decide (r ≥ 0) = true := hc; simpa using this
      rw [if_pos hp]
      repeat (first | refine C.seq ?_ | refine C.region ?_ | refine L.nil ?_ | refine D.seq ?_ | refine L.move (k := ?_) | refine L.assign (k := ?_) | refine C.ret ?_ | refine D.thenRet ?_ | refine L.mkI (c := ?_))
      (refine D.ret (vs := [_, _]) (RV.tmp rfl (RV.tmp rfl RV.nil)) ?_; intro w' hw; exact Post.mk (is := []) hw List.nodup_nil rfl ⟨rfl, rfl⟩)
    · have hp : ¬ 0 ≤ r := by have : decide (r ≥ 0) = false := hc; simpa using this
      repeat (first | refine C.skip ?_)
      exact D.then_ fun a1 w1 hs => ⟨(), hp, hs.lessE rfl (lk_cons rfl (fun _ _ h => lk_nil h))⟩
  rintro _ hneg
  rw [if_neg hneg]
  clear hR hneg r
  refine C.seq ?_
  refine C.joinK (fun _ : Unit => brk l = false) (fun _ => [(0, tx l)]) (fun _ => []) ?_ ?_
  · have hP := prefix_S l [91]
    have hS := suffix_S l [93] hl
    have hB : brk l = (Lib.hasPrefix l [91] && Lib.hasSuffix l [93] && decide (1 < l.length)) := rfl
    cases hp : Lib.hasPrefix l [91] with
    | false =>
      rw [hp] at hP hB
      repeat (first | refine L.txLen (c := ?_) | refine C.seq ?_ | refine C.region ?_ | refine L.nil ?_ | refine D.seq ?_ | refine L.move (k := ?_) | refine C.no (h1 := ?_) | refine L.pickF (k := ?_) | refine L.pass (k := ?_) | refine C.skip ?_ | refine L.callQ (hP) (k := ?_) | refine L.callQ (hS) (k := ?_))
      exact D.then_ fun a1 w1 hs => ⟨(), hB, hs.lessE rfl (lk_cons rfl (fun _ _ h => lk_nil h))⟩
    | true =>
      rw [hp] at hP hB
      cases hq : Lib.hasSuffix l [93] with
      | false =>
        rw [hq] at hS hB
        repeat (first | refine L.txLen (c := ?_) | refine C.seq ?_ | refine C.region ?_ | refine L.nil ?_ | refine D.seq ?_ | refine L.move (k := ?_) | refine C.no (h1 := ?_) | refine L.pickT (k := ?_) | refine L.pickF (k := ?_) | refine L.want (k := ?_) | refine L.pass (k := ?_) | refine C.skip ?_ | refine L.callQ (hP) (k := ?_) | refine L.callQ (hS) (k := ?_))
        exact D.then_ fun a1 w1 hs => ⟨(), hB, hs.lessE rfl (lk_cons rfl (fun _ _ h => lk_nil h))⟩
      | true =>
        rw [hq] at hS hB
        by_cases h1 : 1 < l.length
        · have c1 : cm .gtr (l.length : Int) 1 = true := cm_gt (by omega)
          have d1 : ar .sub .i64 (l.length : Int) 1 = ((l.length - 1 : Nat) : Int) := i64_sub (b := 1) (by omega) (by omega)
          rw [decide_eq_true h1] at hB
          have hB2 : brk l = true := hB
          have hI := inside_S ((l.drop 1).take (l.length - 1 - 1)) (by rw [List.length_take, List.length_drop]; omega)
          rw [hB2]
          repeat (first | refine L.txLen (c := ?_) | refine C.seq ?_ | refine C.region ?_ | refine L.nil ?_ | refine D.seq ?_ | refine L.move (k := ?_) | refine L.assign (k := ?_) | refine L.cm (c := ?_) | refine L.ar (c := ?_) | refine C.yes (h1 := ?_) | refine L.pickT (k := ?_) | refine L.want (k := ?_) | refine C.ret ?_ | refine D.thenRet ?_ | refine L.callQ (hP) (k := ?_) | refine L.callQ (hS) (k := ?_) | refine L.txCut (a := l) (lo := 1) (hi := l.length - 1) (by omega) (by omega) rfl (c := ?_) | refine L.callQ hI (hpre := fun _ hw => hx.bel hw) (k := ?_) | refine L.mkI (c := ?_))
          (refine D.ret (vs := [_, _]) (RV.tmp rfl (RV.tmp rfl RV.nil)) ?_; intro w' hw; exact Post.mk (is := []) hw List.nodup_nil rfl ⟨rfl, rfl⟩)
        · have c1 : cm .gtr (l.length : Int) 1 = false := cm_gt' (by omega)
          rw [decide_eq_false h1] at hB
          repeat (first | refine L.txLen (c := ?_) | refine C.seq ?_ | refine C.region ?_ | refine L.nil ?_ | refine D.seq ?_ | refine L.move (k := ?_) | refine L.cm (c := ?_) | refine C.no (h1 := ?_) | refine L.pickT (k := ?_) | refine L.want (k := ?_) | refine C.skip ?_ | refine L.callQ (hP) (k := ?_) | refine L.callQ (hS) (k := ?_))
          exact D.then_ fun a1 w1 hs => ⟨(), hB, hs.lessE rfl (lk_cons rfl (fun _ _ h => lk_nil h))⟩
  rintro _ hB
  rw [hB]
  simp only [Bool.false_eq_true, if_false]
  cases hp : parOk l with
  | false =>
    have hP := parseN_S l hl hp
    repeat (first | refine C.seq ?_ | refine C.region ?_ | refine L.move (k := ?_))
    refine L.callP [] hP (hpre := fun _ hw => hx.bel hw) (k := ?_)
    rintro u B ⟨t, p, rfl, rfl⟩
    rw [hdrop_nil, List.nil_append]
    repeat (first | refine L.neNilI (k := ?_) | refine C.seq ?_ | refine C.region ?_ | refine L.nil ?_ | refine D.seq ?_ | refine L.move (k := ?_) | refine L.assign (k := ?_) | refine L.extract (c := ?_) | refine C.yes (h1 := ?_) | refine C.ret ?_ | refine D.thenRet ?_)
    (refine D.ret (vs := [_, _]) (RV.tmp rfl (RV.tmp rfl RV.nil)) ?_; intro w' hw; exact Post.mk (is := []) hw List.nodup_nil rfl ⟨rfl, rfl⟩)
  | true =>
    have hP := parseY_S l hl hp
    have hpos : 0 < l.length := by
      cases l with
      | nil => rw [parOk_nil] at hp; cases hp
      | cons a b => simp
    have hx0 : l[0]? = some (l.getD 0 0) := by rw [List.getD_eq_getElem?_getD, List.getElem?_eq_getElem hpos]; rfl
    simp only [if_true]
    generalize l.getD 0 0 = x at *
    by_cases h1 : x = 43
    · have c1 : cm .eql (x.toNat : Int) 43 = true := by rw [h1]; rfl
      rw [if_pos (.inl h1)]
      repeat (first | refine L.neNilI (k := ?_) | refine L.txAt (k := 0) (a := l) rfl hx0 (c := ?_) | refine C.seq ?_ | refine C.region ?_ | refine L.nil ?_ | refine D.seq ?_ | refine L.move (k := ?_) | refine L.assign (k := ?_) | refine L.cm (c := ?_) | refine L.extract (c := ?_) | refine C.yes (h1 := ?_) | refine C.no (h1 := ?_) | refine L.pickT (k := ?_) | refine L.pass (k := ?_) | refine C.ret ?_ | refine D.thenRet ?_ | refine C.skip ?_ | refine L.callQ (hP) (k := ?_) | refine L.mkI (c := ?_))
      (refine D.ret (vs := [_, _]) (RV.tmp rfl (RV.tmp rfl RV.nil)) ?_; intro w' hw; exact Post.mk (is := []) hw List.nodup_nil rfl ⟨rfl, rfl⟩)
    · have c1 : cm .eql (x.toNat : Int) 43 = false := cm_no (fun e => h1 (UInt8.toNat_inj.1 (by show x.toNat = 43; omega)))
      by_cases h2 : x = 45
      · have c2 : cm .eql (x.toNat : Int) 45 = true := by rw [h2]; rfl
        rw [if_pos (.inr h2)]
        repeat (first | refine L.neNilI (k := ?_) | refine L.txAt (k := 0) (a := l) rfl hx0 (c := ?_) | refine C.seq ?_ | refine C.region ?_ | refine L.nil ?_ | refine D.seq ?_ | refine L.move (k := ?_) | refine L.assign (k := ?_) | refine L.cm (c := ?_) | refine L.extract (c := ?_) | refine C.yes (h1 := ?_) | refine C.no (h1 := ?_) | refine L.pickF (k := ?_) | refine L.want (k := ?_) | refine C.ret ?_ | refine D.thenRet ?_ | refine C.skip ?_ | refine L.callQ (hP) (k := ?_) | refine L.mkI (c := ?_))
        (refine D.ret (vs := [_, _]) (RV.tmp rfl (RV.tmp rfl RV.nil)) ?_; intro w' hw; exact Post.mk (is := []) hw List.nodup_nil rfl ⟨rfl, rfl⟩)
      · have c2 : cm .eql (x.toNat : Int) 45 = false := cm_no (fun e => h2 (UInt8.toNat_inj.1 (by show x.toNat = 45; omega)))
        rw [if_neg (fun h => h.elim h1 h2)]
        repeat (first | refine L.neNilI (k := ?_) | refine L.txAt (k := 0) (a := l) rfl hx0 (c := ?_) | refine C.seq ?_ | refine C.region ?_ | refine L.nil ?_ | refine D.seq ?_ | refine L.move (k := ?_) | refine L.assign (k := ?_) | refine L.cm (c := ?_) | refine L.extract (c := ?_) | refine C.no (h1 := ?_) | refine L.pickF (k := ?_) | refine L.want (k := ?_) | refine C.ret ?_ | refine C.skip ?_ | refine L.callQ (hP) (k := ?_) | refine L.mkI (c := ?_))
        (refine D.ret (vs := [_, _]) (RV.tmp rfl (RV.tmp rfl RV.nil)) ?_; intro w' hw; exact Post.mk (is := []) hw List.nodup_nil rfl ⟨rfl, rfl⟩)
def fill1 (i : Ins) (c : UInt8) : Opd → Ins
  | .r x => if c = 68 then { i with d := x } else if c = 83 then { i with s := x } else if c = 84 then { i with t := x } else i
  | .m a b c d => { i with mb := a, mi := b, ms := c, md := d }
  | .n x => { i with im := x }
  | .j x => { i with im := x }
def fillF (i : Ins) : List UInt8 → List Opd → Ins
  | c :: cs, x :: xs => fillF (fill1 i c x) cs xs
  | _, _ => i
abbrev ins0 : Ins := ⟨0, 0, 0, 0, 0, 0, 0, 0, 0⟩
/-- What fill fills. -/
def fillR (op : Int) (l : List Opd) : Ins := if (shapeB op).length = l.length then fillF { ins0 with op := op } (shapeB op) l else ins0
theorem fillF_step {i : Ins} {sh : List UInt8} {l : List Opd} {k : Nat} {c : UInt8} {x : Opd} (hc : sh[k]? = some c) (hx : l[k]? = some x) : fillF i (sh.drop k) (l.drop k) = fillF (fill1 i c x) (sh.drop (k + 1)) (l.drop (k + 1)) := by
  have h1 : sh.drop k = c :: sh.drop (k + 1) := by
    obtain ⟨h, e⟩ := List.getElem?_eq_some_iff.1 hc
    rw [← e]; exact List.drop_eq_getElem_cons h
  have h2 : l.drop k = x :: l.drop (k + 1) := by
    obtain ⟨h, e⟩ := List.getElem?_eq_some_iff.1 hx
    rw [← e]; exact List.drop_eq_getElem_cons h
  rw [h1, h2]; rfl
set_option maxRecDepth 100000 in
set_option maxHeartbeats 16000000 in
theorem fill_S (op : Int) (v : Value) (l : List Opd) (hl : l.length ≤ 1000000) : Ctr Tryz.prog 32 [.int .i64 op, v] [] (fun w => Rd w [] v l.length (vals l)) (is (fillR op l).val []) := by
  have hS := shape_S op
  have hsl := shape_len op
  have hin := shape_in op
  unfold fillR
  generalize shapeB op = sh at *
  refine Ctr.enter Tryz.func32 Tryz.ntmps32 rfl rfl (fun w hr => ?_)
  have sv := hr.1
  by_cases hlen : sh.length = l.length
  · have c1 : cm .neq (sh.length : Int) (l.length : Int) = false := cm_ne' (by omega)
    rw [if_pos hlen]
    repeat (first | refine L.txLen (c := ?_) | refine C.seq ?_ | refine C.region ?_ | refine L.nil ?_ | refine D.seq ?_ | refine L.move (k := ?_) | refine L.assign (k := ?_) | refine L.cm (c := ?_) | refine L.fieldAddr (c := ?_) | refine L.storeV 0 (c := ?_) | refine L.alloc (c := fun _ => ?_) | refine C.no (h1 := ?_) | refine C.block ?_ | refine C.skip ?_ | refine L.callQ (hS) (k := ?_) | refine L.lenR sv (c := ?_))
    rename_i bi
    refine C.loop (α := Nat × Ins) (fun g => g.1 ≤ l.length ∧ fillF { ins0 with op := op } sh l = fillF g.2 (sh.drop g.1) (l.drop g.1)) (fun g => [(4, .pointer (some ⟨bi, 0, none⟩)), (5, tx sh), (22, v), (23, .int .i64 l.length), (24, .int .i64 (g.1 : Int))]) (fun g => [(bi, ob g.2.cells 25)]) (fun g => l.length - g.1) (0, { ins0 with op := op })
      (fun a w hs => hs.lessE rfl (lk_cons rfl (lk_cons rfl (lk_cons rfl (lk_cons rfl (lk_cons rfl (fun _ _ h => lk_nil h))))))) ⟨Nat.zero_le _, by rw [List.drop_zero, List.drop_zero]⟩ ?_
    rintro ⟨k, i⟩ ⟨hk, hF⟩
    simp only at hk hF
    dsimp only
    rcases Nat.lt_or_ge k l.length with hlt | hge
    · have d1 : cm .lss (k : Int) l.length = true := cm_lo (by omega)
      have d2 : ar .add .i64 (k : Int) 1 = ((k + 1 : Nat) : Int) := i64_add (b := 1) (by omega)
      obtain ⟨x, hx⟩ : ∃ x, l[k]? = some x := ⟨_, List.getElem?_eq_getElem hlt⟩
      obtain ⟨c, hc⟩ : ∃ c, sh[k]? = some c := ⟨_, List.getElem?_eq_getElem (by omega)⟩
      have hv : (vals l)[k]? = some x.val := by unfold vals; rw [List.getElem?_map, hx]; rfl
      have o1 := hr.2 (by omega)
      rw [fillF_step hc hx] at hF
      have hin := hin c (List.mem_of_getElem? hc)
      cases x with
      | r n =>
        rcases hin with rfl | rfl | rfl | rfl | rfl | rfl
        all_goals
          (repeat (first | refine L.txLen (c := ?_) | refine C.seq ?_ | refine C.region ?_ | refine L.nil ?_ | refine D.seq ?_ | refine L.move (k := ?_) | refine L.assign (k := ?_) | refine L.cm (c := ?_) | refine L.ar (c := ?_) | refine L.fieldAddr (c := ?_) | refine L.storeV 0 (c := ?_) | refine L.extract (c := ?_) | refine C.yes (h1 := ?_) | refine C.no (h1 := ?_) | refine C.block ?_ | refine D.blkNormal ?_ | refine C.skip ?_ | refine L.assertY (c := ?_) | refine L.indexR sv hlt (c := ?_) | refine L.loadF o1 hv (ho := by simp) (c := ?_) | refine L.assertY (c := ?_) | refine L.assertN (c := ?_) | refine L.txAt (k := k) (a := sh) rfl hc (c := ?_))
           exact D.then_ fun a1 w1 hs => ⟨(k + 1, _), ⟨hlt, hF⟩, by simp only; omega, hs.lessE rfl (lk_cons rfl (lk_cons rfl (lk_cons rfl (lk_cons rfl (lk_cons rfl (fun _ _ h => lk_nil h))))))⟩)
      | n n =>
        repeat (first | refine L.txLen (c := ?_) | refine C.seq ?_ | refine C.region ?_ | refine L.nil ?_ | refine D.seq ?_ | refine L.move (k := ?_) | refine L.assign (k := ?_) | refine L.cm (c := ?_) | refine L.ar (c := ?_) | refine L.fieldAddr (c := ?_) | refine L.storeV 0 (c := ?_) | refine L.extract (c := ?_) | refine C.yes (h1 := ?_) | refine C.no (h1 := ?_) | refine C.block ?_ | refine D.blkNormal ?_ | refine C.skip ?_ | refine L.assertY (c := ?_) | refine L.assertN (c := ?_) | refine L.indexR sv hlt (c := ?_) | refine L.loadF o1 hv (ho := by simp) (c := ?_) | refine L.assertY (c := ?_) | refine L.assertN (c := ?_))
        exact D.then_ fun a1 w1 hs => ⟨(k + 1, _), ⟨hlt, hF⟩, by simp only; omega, hs.lessE rfl (lk_cons rfl (lk_cons rfl (lk_cons rfl (lk_cons rfl (lk_cons rfl (fun _ _ h => lk_nil h))))))⟩
      | j n =>
        repeat (first | refine L.txLen (c := ?_) | refine C.seq ?_ | refine C.region ?_ | refine L.nil ?_ | refine D.seq ?_ | refine L.move (k := ?_) | refine L.assign (k := ?_) | refine L.cm (c := ?_) | refine L.ar (c := ?_) | refine L.fieldAddr (c := ?_) | refine L.storeV 0 (c := ?_) | refine L.extract (c := ?_) | refine C.yes (h1 := ?_) | refine C.no (h1 := ?_) | refine C.block ?_ | refine D.blkNormal ?_ | refine C.skip ?_ | refine L.assertY (c := ?_) | refine L.assertN (c := ?_) | refine L.indexR sv hlt (c := ?_) | refine L.loadF o1 hv (ho := by simp) (c := ?_) | refine L.assertY (c := ?_) | refine L.assertN (c := ?_))
        exact D.then_ fun a1 w1 hs => ⟨(k + 1, _), ⟨hlt, hF⟩, by simp only; omega, hs.lessE rfl (lk_cons rfl (lk_cons rfl (lk_cons rfl (lk_cons rfl (lk_cons rfl (fun _ _ h => lk_nil h))))))⟩
      | m ma mb mc md =>
        repeat (first | refine L.txLen (c := ?_) | refine C.seq ?_ | refine C.region ?_ | refine L.nil ?_ | refine D.seq ?_ | refine L.move (k := ?_) | refine L.assign (k := ?_) | refine L.cm (c := ?_) | refine L.ar (c := ?_) | refine L.fieldAddr (c := ?_) | refine L.loadA 0 (c := ?_) | refine L.storeV 0 (c := ?_) | refine L.storeV 1 (c := ?_) | refine L.extract (c := ?_) | refine L.alloc (c := fun _ => ?_) | refine C.yes (h1 := ?_) | refine C.no (h1 := ?_) | refine C.block ?_ | refine D.blkNormal ?_ | refine C.skip ?_ | refine L.assertY (c := ?_) | refine L.assertN (c := ?_) | refine L.indexR sv hlt (c := ?_) | refine L.loadF o1 hv (ho := by simp) (c := ?_) | refine L.assertY (c := ?_) | refine L.assertN (c := ?_))
        exact D.then_ fun a1 w1 hs => ⟨(k + 1, _), ⟨hlt, hF⟩, by simp only; omega, hs.lessD 1 rfl (lk_cons rfl (lk_cons rfl (lk_cons rfl (lk_cons rfl (lk_cons rfl (fun _ _ h => lk_nil h))))))⟩
    · have d1 : cm .lss (k : Int) l.length = false := cm_lo' (by omega)
      obtain rfl : k = l.length := by omega
      have hF2 : fillF { ins0 with op := op } sh l = i := by rw [hF, List.drop_length, ← hlen, List.drop_length]; rfl
      rw [hF2]
      repeat (first | refine L.txLen (c := ?_) | refine C.seq ?_ | refine C.region ?_ | refine L.nil ?_ | refine D.seq ?_ | refine L.cm (c := ?_) | refine L.loadA 0 (c := ?_) | refine L.storeV 0 (c := ?_) | refine C.no (h1 := ?_) | refine C.ret ?_ | refine C.exit ?_ | refine D.thenExit ?_ | refine D.blkExit ?_ | refine D.seqR (h := ?_))
      refine D.ret (vs := [_]) (RV.cellA 0 rfl rfl rfl rfl rfl RV.nil) ?_
      intro w' hw; exact Post.mk (is := []) hw List.nodup_nil rfl ⟨rfl, rfl⟩
  · have c1 : cm .neq (sh.length : Int) (l.length : Int) = true := cm_ne (by omega)
    rw [if_neg hlen]
    repeat (first | refine L.txLen (c := ?_) | refine C.seq ?_ | refine C.region ?_ | refine L.nil ?_ | refine D.seq ?_ | refine L.move (k := ?_) | refine L.assign (k := ?_) | refine L.cm (c := ?_) | refine L.fieldAddr (c := ?_) | refine L.storeV 0 (c := ?_) | refine L.build (c := ?_) | refine L.alloc (c := fun _ => ?_) | refine C.yes (h1 := ?_) | refine C.ret ?_ | refine D.thenRet ?_ | refine L.callQ (hS) (k := ?_) | refine L.lenR sv (c := ?_))
    refine D.ret (vs := [_]) (RV.cellA 0 rfl rfl rfl rfl rfl RV.nil) ?_
    intro w' hw; exact Post.mk (is := []) hw List.nodup_nil rfl ⟨rfl, rfl⟩
end Go.Proofs.YtokcamgipnaoeaaGreatDoor.Ls
