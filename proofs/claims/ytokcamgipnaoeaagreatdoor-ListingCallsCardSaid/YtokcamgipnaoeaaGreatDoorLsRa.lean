/- Listing, the document's answer: digits, signed, Register, place, Name, Jump: what they answer. No condition. -/
import Derived.Test.YtokcamgipnaoeaaGreatDoorLsR
import Derived.Test.YtokcamgipnaoeaaGreatDoorLsY
set_option linter.unusedVariables false
set_option linter.unusedSimpArgs false
namespace Go.Proofs.YtokcamgipnaoeaaGreatDoor.Ls
open Go Go.RowKit SL Go.Shelf
attribute [local irreducible] SL.L SL.C SL.D SL.N SL.H SL.QL SL.QW SL.QP

section
variable {P : Program} {ops : Array Oper} {Q : Exit → Act → World → Prop} {s : St} {E : Env} {M : Hp} {rest : List Oper} {d t : Nat} {pos : String} {af : Array Edge}
theorem negI {x : Operand} {n z : Int} {k : IntKind} {T : TypeId} (hn : Nat.blt d s.n = true := by exact rfl) (hx : ev E x = some (.int k n) := by exact rfl) (hz : k.wrap (-n) = z := by first | with_reducible assumption | rfl)
    (c : L P ops Q rest s ((d, .int k z) :: E) M) : L P ops Q (⟨some d, .unOp .neg T x, t, pos, af, none⟩ :: rest) s E M :=
  L.val hn (fun a w hs => ⟨w, by
    refine run_value ?_
    rw [hs.ev hx, ← hz]; simp [Op.unary, Op.intArith], hs.at_⟩) c
end
theorem dec_big {u : Nat} (h : 10 ≤ u) : Lib.decDigits u = Lib.decDigits (u / 10) ++ Lib.decDigits (u % 10) := by
  conv => lhs; rw [Lib.decDigits]
  rw [dif_neg (by omega)]
  congr 1
  rw [Lib.decDigits, dif_pos (by omega)]
theorem dec_len (u : Nat) : ∀ k : Nat, u < 10 ^ (k + 1) → (Lib.decDigits u).length ≤ k + 1 := by
  intro k
  induction k generalizing u with
  | zero => intro h; rw [Lib.decDigits, dif_pos (by simpa using h)]; simp
  | succ k ih =>
    intro h
    rw [Lib.decDigits]
    split
    · simp
    · have := ih (u / 10) (by rw [Nat.pow_succ] at h; omega)
      rw [List.length_append, List.length_singleton]; omega
set_option maxRecDepth 100000 in
set_option maxHeartbeats 4000000 in
theorem digP_S : ∀ u : Nat, u ≤ 9223372036854775807 → Ctr Tryz.prog 28 [.int .i64 (u : Int)] [] tt (is (tx (Lib.decDigits u)) []) := by
  intro u
  induction u using Nat.strongRecOn with
  | _ u ih =>
    intro hu
    have c1 : cm .lss (u : Int) 0 = false := cm_lo' (by omega)
    refine Ctr.enter Tryz.func28 Tryz.ntmps28 rfl rfl (fun w _ => ?_)
    by_cases h : u < 10
    · have c2 : cm .lss (u : Int) 10 = true := cm_lo (by omega)
      have d1 : ar .add .i64 (u : Int) 1 = ((u + 1 : Nat) : Int) := i64_add (b := 1) (by omega)
      have key : ∀ u : Nat, u < 10 → (([48, 49, 50, 51, 52, 53, 54, 55, 56, 57] : List UInt8).drop u).take (u + 1 - u) = Lib.decDigits u := by decide +kernel
      repeat (first | refine L.txCut (a := [48, 49, 50, 51, 52, 53, 54, 55, 56, 57]) (lo := u) (hi := u + 1) (by omega) (by simp; omega) (key u h) (c := ?_) | refine C.seq ?_ | refine C.region ?_ | refine L.nil ?_ | refine D.seq ?_ | refine L.move (k := ?_) | refine L.assign (k := ?_) | refine L.cm (c := ?_) | refine L.ar (c := ?_) | refine C.yes (h1 := ?_) | refine C.no (h1 := ?_) | refine C.ret ?_ | refine D.thenRet ?_ | refine C.skip ?_)
      (refine D.ret (vs := [_]) (RV.tmp rfl RV.nil) ?_; intro w' hw; exact Post.mk (is := []) hw List.nodup_nil rfl ⟨rfl, rfl⟩)
    · have c2 : cm .lss (u : Int) 10 = false := cm_lo' (by omega)
      have d1 : ar .quo .i64 (u : Int) 10 = ((u / 10 : Nat) : Int) := by
        show IntKind.i64.wrap ((u : Int).tdiv 10) = _
        rw [IntKind.wrap_i64, Int.tdiv_eq_ediv_of_nonneg (by omega)]; omega
      have d2 : ar .rem .i64 (u : Int) 10 = ((u % 10 : Nat) : Int) := by
        show (u : Int).tmod 10 = _
        rw [Int.tmod_eq_emod_of_nonneg (by omega)]; omega
      have h1 := ih (u / 10) (by omega) (by omega)
      have h2 := ih (u % 10) (by omega) (by omega)
      have hl1 := dec_len (u / 10) 19 (by omega)
      have hl2 := dec_len (u % 10) 19 (by omega)
      have hsum : (Lib.decDigits (u / 10)).length + (Lib.decDigits (u % 10)).length ≤ 1000000000 := by omega
      rw [dec_big (by omega : 10 ≤ u)]
      repeat (first | refine C.seq ?_ | refine C.region ?_ | refine L.nil ?_ | refine D.seq ?_ | refine L.move (k := ?_) | refine L.assign (k := ?_) | refine L.cm (c := ?_) | refine L.ar (c := ?_) | refine C.no (h1 := ?_) | refine C.ret ?_ | refine C.skip ?_ | refine L.callQ (h1) (k := ?_) | refine L.callQ (h2) (k := ?_) | refine L.txAdd (h := hsum) (c := ?_))
      (refine D.ret (vs := [_]) (RV.tmp rfl RV.nil) ?_; intro w' hw; exact Post.mk (is := []) hw List.nodup_nil rfl ⟨rfl, rfl⟩)
set_option maxRecDepth 100000 in
set_option maxHeartbeats 4000000 in
theorem digits_S (n : Int) (h : I64' n) : Ctr Tryz.prog 28 [.int .i64 n] [] tt (is (tx (Lib.itoa n)) []) := by
  obtain ⟨h1, h2⟩ := h
  by_cases h0 : n < 0
  · have c1 : cm .lss n 0 = true := cm_lo h0
    refine Ctr.enter Tryz.func28 Tryz.ntmps28 rfl rfl (fun w _ => ?_)
    by_cases hm : n = -9223372036854775808
    · have hw : IntKind.i64.wrap (-n) = n := by rw [hm]; decide
      have c2 : cm .eql n n = true := cm_yes rfl
      have hI : Lib.itoa n = [45, 57, 50, 50, 51, 51, 55, 50, 48, 51, 54, 56, 53, 52, 55, 55, 53, 56, 48, 56] := by rw [hm]; decide +kernel
      rw [hI]
      repeat (first | refine C.seq ?_ | refine C.region ?_ | refine L.nil ?_ | refine D.seq ?_ | refine L.move (k := ?_) | refine L.assign (k := ?_) | refine L.cm (c := ?_) | refine C.yes (h1 := ?_) | refine C.ret ?_ | refine D.thenRet ?_ | refine negI (c := ?_))
      (refine D.ret (vs := [_]) (RV.tmp rfl RV.nil) ?_; intro w' hw; exact Post.mk (is := []) hw List.nodup_nil rfl ⟨rfl, rfl⟩)
    · have hw : IntKind.i64.wrap (-n) = (n.natAbs : Int) := by rw [IntKind.wrap_i64]; omega
      have c2 : cm .eql n (n.natAbs : Int) = false := cm_no (by omega)
      have hD := digP_S n.natAbs (by omega)
      have hl := dec_len n.natAbs 19 (by omega)
      have hI : Lib.itoa n = [45] ++ Lib.decDigits n.natAbs := by unfold Lib.itoa; rw [if_pos h0]; rfl
      rw [hI]
      repeat (first | refine C.seq ?_ | refine C.region ?_ | refine L.nil ?_ | refine D.seq ?_ | refine L.move (k := ?_) | refine L.assign (k := ?_) | refine L.cm (c := ?_) | refine C.yes (h1 := ?_) | refine C.no (h1 := ?_) | refine C.ret ?_ | refine D.thenRet ?_ | refine C.skip ?_ | refine negI (c := ?_) | refine L.callQ (hD) (k := ?_) | refine L.txAdd (c := ?_))
      (refine D.ret (vs := [_]) (RV.tmp rfl RV.nil) ?_; intro w' hw; exact Post.mk (is := []) hw List.nodup_nil rfl ⟨rfl, rfl⟩)
  · obtain ⟨u, rfl⟩ := Int.eq_ofNat_of_zero_le (by omega : 0 ≤ n)
    have hI : Lib.itoa (u : Int) = Lib.decDigits u := by unfold Lib.itoa; rw [if_neg h0]; simp
    rw [hI]
    exact digP_S u (by omega)
theorem signed_S (n : Int) (h : I64' n) : Ctr Tryz.prog 27 [.int .i64 n] [] tt (is (tx (distT n)) []) := by
  have hD := digits_S n h
  have hl := Lib.itoa_length_le n h.1 h.2
  refine Ctr.enter Tryz.func27 Tryz.ntmps27 rfl rfl (fun w _ => ?_)
  unfold distT
  by_cases h0 : n < 0
  · have c1 : cm .lss n 0 = true := cm_lo h0
    rw [if_pos h0]
    repeat (first | refine C.seq ?_ | refine C.region ?_ | refine L.nil ?_ | refine D.seq ?_ | refine L.move (k := ?_) | refine L.assign (k := ?_) | refine L.cm (c := ?_) | refine C.yes (h1 := ?_) | refine C.ret ?_ | refine D.thenRet ?_ | refine L.callQ (hD) (k := ?_) | refine L.txAdd (c := ?_))
    (refine D.ret (vs := [_]) (RV.tmp rfl RV.nil) ?_; intro w' hw; exact Post.mk (is := []) hw List.nodup_nil rfl ⟨rfl, rfl⟩)
  · have c1 : cm .lss n 0 = false := cm_lo' (by omega)
    rw [if_neg h0]
    repeat (first | refine C.seq ?_ | refine C.region ?_ | refine L.nil ?_ | refine D.seq ?_ | refine L.move (k := ?_) | refine L.assign (k := ?_) | refine L.cm (c := ?_) | refine C.no (h1 := ?_) | refine C.ret ?_ | refine C.skip ?_ | refine L.callQ (hD) (k := ?_) | refine L.txAdd (a := [43]) (b := Lib.itoa n) (c := ?_))
    (refine D.ret (vs := [_]) (RV.tmp rfl RV.nil) ?_; intro w' hw; exact Post.mk (is := []) hw List.nodup_nil rfl ⟨rfl, rfl⟩)
theorem rregister_L (r : Int) : Ctr Tryz.prog 38 [.int .i64 r] [] tt (is (.bool (reg r)) []) :=
  spec_n (fun w _ => (rregister_any r w).mono (by rintro e w' ⟨rfl, rfl⟩; exact ⟨rfl, Below.refl _ _⟩))
set_option maxRecDepth 100000 in
set_option maxHeartbeats 4000000 in
theorem rname_S (r : Int) : Ctr Tryz.prog 25 [.int .i64 r] [] tt (is (tx (regT r)) []) := by
  have hR := rregister_L r
  refine Ctr.enter Tryz.func25 Tryz.ntmps25 rfl rfl (fun w _ => ?_)
  by_cases h : reg r = true
  · rw [h] at hR
    have hr : 0 ≤ r ∧ r ≤ 15 := by simpa [reg] using h
    obtain ⟨n, rfl⟩ := Int.eq_ofNat_of_zero_le hr.1
    have hg := reg_get (r := n) (by omega)
    have hl : n < 16 := by omega
    repeat (first | refine C.seq ?_ | refine C.region ?_ | refine L.nil ?_ | refine D.seq ?_ | refine L.move (k := ?_) | refine L.assign (k := ?_) | refine C.no (h1 := ?_) | refine L.not (c := ?_) | refine C.skip ?_ | refine L.buildS (c := fun _ => ?_) | refine L.callQ (hR) (k := ?_))
    rename_i sb
    refine L.base [(sb, ob (regL.map tx) 9)] (M' := []) rfl (fun w1 h1 => ?_)
    have r1 : Rd w1 [] (.slice (some ⟨sb, 0, none⟩) 16 16) 16 (regL.map tx) := Rd.own (h1.holds _ List.mem_cons_self) (by simp) (Nat.le_refl _) 16 rfl
    have h1' : At w [] ([(sb, ob (regL.map tx) 9)] ++ []) w1 := h1
    generalize Value.slice (some ⟨sb, 0, none⟩) 16 16 = v1 at *
    have sv := r1.1
    have o1 := r1.2 (by omega)
    repeat (first | refine L.nil ?_ | refine L.assign (k := ?_) | refine C.ret ?_ | refine D.seqR (h := ?_) | refine L.indexR sv hl (c := ?_) | refine L.loadF o1 hg (ho := by simp) (c := ?_))
    (refine D.ret (vs := [_]) (RV.tmp rfl RV.nil) ?_; intro w' hw; exact Post.mk (is := []) (At.back h1' hw) List.nodup_nil rfl ⟨rfl, rfl⟩)
  · have h0 : reg r = false := by simpa using h
    have hT : regT r = [] := by unfold regT; rw [h0]; rfl
    rw [h0] at hR
    rw [hT]
    repeat (first | refine C.seq ?_ | refine C.region ?_ | refine L.nil ?_ | refine D.seq ?_ | refine L.move (k := ?_) | refine L.assign (k := ?_) | refine C.yes (h1 := ?_) | refine L.not (c := ?_) | refine C.ret ?_ | refine D.thenRet ?_ | refine L.callQ (hR) (k := ?_))
    (refine D.ret (vs := [_]) (RV.tmp rfl RV.nil) ?_; intro w' hw; exact Post.mk (is := []) hw List.nodup_nil rfl ⟨rfl, rfl⟩)
set_option maxRecDepth 100000 in
set_option maxHeartbeats 16000000 in
theorem rplace_S (mb mi ms md : Int) (h1 : I64' ms) (h2 : I64' md) : Ctr Tryz.prog 23 [memV mb mi ms md] [] tt (is (tx (placeT mb mi ms md)) []) := by
  have n1 := rname_S mb
  have n2 := rname_S mi
  have n3 := digits_S ms h1
  have n4 := signed_S md h2
  have q1 := regT_len mb
  have q2 := regT_len mi
  have q3 := Lib.itoa_length_le ms h1.1 h1.2
  have q4 := distT_len md h2
  refine Ctr.enter Tryz.func23 Tryz.ntmps23 rfl rfl (fun w _ => ?_)
  by_cases e1 : mi = -1 <;> by_cases e2 : md = 0
  · have c1 : cm .neq mi (-1) = false := cm_ne' e1
    have c2 : cm .neq md 0 = false := cm_ne' e2
    have hP : placeT mb mi ms md = [91] ++ regT mb ++ [93] := by unfold placeT; rw [if_pos e1, if_pos e2]; simp
    rw [hP]
    repeat (first | refine C.seq ?_ | refine C.region ?_ | refine L.nil ?_ | refine D.seq ?_ | refine L.move (k := ?_) | refine L.assign (k := ?_) | refine L.cm (c := ?_) | refine L.fieldAddr (c := ?_) | refine L.load1 0 (c := ?_) | refine L.box (c := fun _ => ?_) | refine C.no (h1 := ?_) | refine C.ret ?_ | refine C.skip ?_ | refine L.callQ (n1) (k := ?_) | refine L.callQ (n2) (k := ?_) | refine L.callQ (n3) (k := ?_) | refine L.callQ (n4) (k := ?_) | refine L.txAdd (c := ?_))
    (refine D.ret (vs := [_]) (RV.tmp rfl RV.nil) ?_; intro w' hw; exact Post.mk (is := []) hw List.nodup_nil rfl ⟨rfl, rfl⟩)
  · have c1 : cm .neq mi (-1) = false := cm_ne' e1
    have c2 : cm .neq md 0 = true := cm_ne e2
    have hP : placeT mb mi ms md = [91] ++ regT mb ++ distT md ++ [93] := by unfold placeT; rw [if_pos e1, if_neg e2]; simp
    rw [hP]
    repeat (first | refine C.seq ?_ | refine C.region ?_ | refine L.nil ?_ | refine D.seq ?_ | refine L.move (k := ?_) | refine L.assign (k := ?_) | refine L.cm (c := ?_) | refine L.fieldAddr (c := ?_) | refine L.load1 0 (c := ?_) | refine L.box (c := fun _ => ?_) | refine C.yes (h1 := ?_) | refine C.no (h1 := ?_) | refine C.ret ?_ | refine C.skip ?_ | refine L.callQ (n1) (k := ?_) | refine L.callQ (n2) (k := ?_) | refine L.callQ (n3) (k := ?_) | refine L.callQ (n4) (k := ?_) | refine L.txAdd (c := ?_))
    (refine D.ret (vs := [_]) (RV.tmp rfl RV.nil) ?_; intro w' hw; exact Post.mk (is := []) hw List.nodup_nil rfl ⟨rfl, rfl⟩)
  · have c1 : cm .neq mi (-1) = true := cm_ne e1
    have c2 : cm .neq md 0 = false := cm_ne' e2
    have hP : placeT mb mi ms md = [91] ++ regT mb ++ [43] ++ Lib.itoa ms ++ [42] ++ regT mi ++ [93] := by unfold placeT; rw [if_neg e1, if_pos e2]; simp
    rw [hP]
    repeat (first | refine C.seq ?_ | refine C.region ?_ | refine L.nil ?_ | refine D.seq ?_ | refine L.assign (k := ?_) | refine L.cm (c := ?_) | refine L.fieldAddr (c := ?_) | refine L.load1 0 (c := ?_) | refine L.box (c := fun _ => ?_) | refine C.yes (h1 := ?_) | refine L.callQ (n1) (k := ?_) | refine L.callQ (n2) (k := ?_) | refine L.callQ (n3) (k := ?_) | refine L.callQ (n4) (k := ?_) | refine L.txAdd (c := ?_))
    refine C.quietA (h := ?_)
    repeat' (first | refine C.seq ?_ | refine C.region ?_ | refine L.nil ?_ | refine D.seq ?_ | refine L.move (k := ?_) | refine L.assign (k := ?_) | refine L.cm (c := ?_) | refine L.fieldAddr (c := ?_) | refine L.load1 0 (c := ?_) | refine C.no (h1 := ?_) | refine C.ret ?_ | refine C.skip ?_ | exact D.endsQ | refine QL.fin ?_ | (refine QL.step (v := ?_) (by exact rfl) (by exact rfl) ?_ ?_; rotate_left) | refine L.callQ (n1) (k := ?_) | refine L.callQ (n2) (k := ?_) | refine L.callQ (n3) (k := ?_) | refine L.callQ (n4) (k := ?_) | refine L.txAdd (c := ?_))
    (refine D.ret (vs := [_]) (RV.tmp rfl RV.nil) ?_; intro w' hw; exact Post.mk (is := []) hw List.nodup_nil rfl ⟨rfl, rfl⟩)
  · have c1 : cm .neq mi (-1) = true := cm_ne e1
    have c2 : cm .neq md 0 = true := cm_ne e2
    have hP : placeT mb mi ms md = [91] ++ regT mb ++ [43] ++ Lib.itoa ms ++ [42] ++ regT mi ++ distT md ++ [93] := by unfold placeT; rw [if_neg e1, if_neg e2]; simp
    rw [hP]
    repeat (first | refine C.seq ?_ | refine C.region ?_ | refine L.nil ?_ | refine D.seq ?_ | refine L.assign (k := ?_) | refine L.cm (c := ?_) | refine L.fieldAddr (c := ?_) | refine L.load1 0 (c := ?_) | refine L.box (c := fun _ => ?_) | refine C.yes (h1 := ?_) | refine L.callQ (n1) (k := ?_) | refine L.callQ (n2) (k := ?_) | refine L.callQ (n3) (k := ?_) | refine L.callQ (n4) (k := ?_) | refine L.txAdd (c := ?_))
    refine C.quietA (h := ?_)
    repeat' (first | refine C.seq ?_ | refine C.region ?_ | refine L.nil ?_ | refine D.seq ?_ | refine L.move (k := ?_) | refine L.assign (k := ?_) | refine L.cm (c := ?_) | refine L.fieldAddr (c := ?_) | refine L.load1 0 (c := ?_) | refine C.yes (h1 := ?_) | refine C.ret ?_ | exact D.endsQ | refine QL.fin ?_ | (refine QL.step (v := ?_) (by exact rfl) (by exact rfl) ?_ ?_; rotate_left) | refine L.callQ (n1) (k := ?_) | refine L.callQ (n2) (k := ?_) | refine L.callQ (n3) (k := ?_) | refine L.callQ (n4) (k := ?_) | refine L.txAdd (c := ?_))
    (refine D.ret (vs := [_]) (RV.tmp rfl RV.nil) ?_; intro w' hw; exact Post.mk (is := []) hw List.nodup_nil rfl ⟨rfl, rfl⟩)
set_option maxRecDepth 100000 in
set_option maxHeartbeats 16000000 in
theorem rNameT_S (op : Int) (h : 1 ≤ op ∧ op ≤ 33) : Ctr Tryz.prog 29 [.int .i64 op] [] tt (is (tx (nameT op)) []) := by
  rcases (by omega : op = 1 ∨ op = 2 ∨ op = 3 ∨ op = 4 ∨ op = 5 ∨ op = 6 ∨ op = 7 ∨ op = 8 ∨ op = 9 ∨ op = 10 ∨ op = 11 ∨ op = 12 ∨ op = 13 ∨ op = 14 ∨ op = 15 ∨ op = 16 ∨ op = 17 ∨ op = 18 ∨ op = 19 ∨ op = 20 ∨ op = 21 ∨ op = 22 ∨ op = 23 ∨ op = 24 ∨ op = 25 ∨ op = 26 ∨ op = 27 ∨ op = 28 ∨ op = 29 ∨ op = 30 ∨ op = 31 ∨ op = 32 ∨ op = 33) with rfl | rfl | rfl | rfl | rfl | rfl | rfl | rfl | rfl | rfl | rfl | rfl | rfl | rfl | rfl | rfl | rfl | rfl | rfl | rfl | rfl | rfl | rfl | rfl | rfl | rfl | rfl | rfl | rfl | rfl | rfl | rfl | rfl
  all_goals (refine Ctr.enter Tryz.func29 Tryz.ntmps29 rfl rfl (fun w _ => ?_))
  all_goals (repeat (first | refine C.seq ?_ | refine C.region ?_ | refine L.nil ?_ | refine D.seq ?_ | refine L.move (k := ?_) | refine L.assign (k := ?_) | refine L.cm (c := ?_) | refine C.yes (h1 := ?_) | refine C.no (h1 := ?_) | refine C.block ?_ | refine C.ret ?_ | refine D.thenRet ?_ | refine D.blkRet ?_ | refine C.skip ?_))
  all_goals (refine D.ret (vs := [_]) (RV.tmp rfl RV.nil) ?_; intro w' hw; exact Post.mk (is := []) hw List.nodup_nil rfl ⟨rfl, rfl⟩)
def jmpB (op : Int) : Bool := decide (op = 30) || decide (op = 31) || decide (op = 32)
set_option maxRecDepth 100000 in
set_option maxHeartbeats 4000000 in
theorem rjump_S (i : Ins) (hc : i.chk = true) : Ctr Tryz.prog 26 [i.val] [] tt (is (.bool (jmpB i.op)) []) := by
  have hC := rcheck_L i
  rw [hc] at hC
  have c0 : cm .eql (errOf true) 0 = true := rfl
  unfold jmpB
  refine Ctr.enter Tryz.func26 Tryz.ntmps26 rfl rfl (fun w _ => ?_)
  have e30 : cm .eql i.op 30 = decide (i.op = 30) := rfl
  have e31 : cm .eql i.op 31 = decide (i.op = 31) := rfl
  have e32 : cm .eql i.op 32 = decide (i.op = 32) := rfl
  by_cases h0 : i.op = 30
  · rw [decide_eq_true h0] at e30 ⊢
    repeat (first | refine C.seq ?_ | refine C.region ?_ | refine L.nil ?_ | refine D.seq ?_ | refine L.move (k := ?_) | refine L.assign (k := ?_) | refine L.cm (c := ?_) | refine L.fieldAddr (c := ?_) | refine L.load1 0 (c := ?_) | refine L.loadA 0 (c := ?_) | refine L.box (c := fun _ => ?_) | refine L.pickT (k := ?_) | refine L.want (k := ?_) | refine L.pass (k := ?_) | refine C.ret ?_ | refine L.callQ (hC) (k := ?_))
    (refine D.ret (vs := [_]) (RV.tmp rfl RV.nil) ?_; intro w' hw; exact Post.mk (is := []) hw List.nodup_nil rfl ⟨rfl, rfl⟩)
  · rw [decide_eq_false h0] at e30 ⊢
    by_cases h1 : i.op = 31
    · rw [decide_eq_true h1] at e31 ⊢
      repeat (first | refine C.seq ?_ | refine C.region ?_ | refine L.nil ?_ | refine D.seq ?_ | refine L.move (k := ?_) | refine L.assign (k := ?_) | refine L.cm (c := ?_) | refine L.fieldAddr (c := ?_) | refine L.load1 0 (c := ?_) | refine L.loadA 0 (c := ?_) | refine L.box (c := fun _ => ?_) | refine L.pickT (k := ?_) | refine L.pickF (k := ?_) | refine L.want (k := ?_) | refine L.pass (k := ?_) | refine C.ret ?_ | refine L.callQ (hC) (k := ?_))
      (refine D.ret (vs := [_]) (RV.tmp rfl RV.nil) ?_; intro w' hw; exact Post.mk (is := []) hw List.nodup_nil rfl ⟨rfl, rfl⟩)
    · rw [decide_eq_false h1] at e31 ⊢
      by_cases h2 : i.op = 32
      · rw [decide_eq_true h2] at e32 ⊢
        repeat (first | refine C.seq ?_ | refine C.region ?_ | refine L.nil ?_ | refine D.seq ?_ | refine L.move (k := ?_) | refine L.assign (k := ?_) | refine L.cm (c := ?_) | refine L.fieldAddr (c := ?_) | refine L.load1 0 (c := ?_) | refine L.loadA 0 (c := ?_) | refine L.box (c := fun _ => ?_) | refine L.pickT (k := ?_) | refine L.pickF (k := ?_) | refine L.want (k := ?_) | refine C.ret ?_ | refine L.callQ (hC) (k := ?_))
        (refine D.ret (vs := [_]) (RV.tmp rfl RV.nil) ?_; intro w' hw; exact Post.mk (is := []) hw List.nodup_nil rfl ⟨rfl, rfl⟩)
      · rw [decide_eq_false h2] at e32 ⊢
        repeat (first | refine C.seq ?_ | refine C.region ?_ | refine L.nil ?_ | refine D.seq ?_ | refine L.move (k := ?_) | refine L.assign (k := ?_) | refine L.cm (c := ?_) | refine L.fieldAddr (c := ?_) | refine L.load1 0 (c := ?_) | refine L.loadA 0 (c := ?_) | refine L.box (c := fun _ => ?_) | refine L.pickT (k := ?_) | refine L.pickF (k := ?_) | refine L.want (k := ?_) | refine C.ret ?_ | refine L.callQ (hC) (k := ?_))
        (refine D.ret (vs := [_]) (RV.tmp rfl RV.nil) ?_; intro w' hw; exact Post.mk (is := []) hw List.nodup_nil rfl ⟨rfl, rfl⟩)
end Go.Proofs.YtokcamgipnaoeaaGreatDoor.Ls
