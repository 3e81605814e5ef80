/- Several texts, one behind the other. -/
import Derived.Test.YtkjlgapkcdcmgaaLmA
import Derived.Test.YtkjlgapkcdcmgaaSepGZ
set_option linter.unusedVariables false
set_option linter.unusedSimpArgs false
namespace Go.Proofs.Ytkjlgapkcdcmgaa
open Go Go.RowKit SL
attribute [local irreducible] SL.L SL.C SL.D SL.N SL.H SL.QL SL.QW SL.QP

theorem mul64_S (n : Nat) (hn : n ≤ 65536) : Ctr Try.prog 112 [.int .u64 1, .int .u64 (n : Int)] [] tt (is2 (.int .u64 0) (.int .u64 (n : Int))) := by
  refine Ctr.enter Try.func112 Try.ntmps112 rfl rfl (fun w _ => ?_)
  have e1 : ar .and .u64 1 4294967295 = 1 := rfl
  have e2 : ar .shr .u64 1 32 = 0 := rfl
  have e3 : ar .and .u64 (n : Int) 4294967295 = n := by
    have := and_nat n 4294967295 (by omega) (by decide)
    rw [show ((4294967295 : Nat) : Int) = 4294967295 from rfl] at this
    rw [this, show (4294967295 : Nat) = 2 ^ 32 - 1 from rfl, Nat.and_two_pow_sub_one_of_lt_two_pow (by omega)]
  have e4 : ar .shr .u64 (n : Int) 32 = 0 := by
    show Int.fdiv (n : Int) (2 ^ 32) = 0
    rw [Int.fdiv_eq_ediv_of_nonneg _ (by decide)]; omega
  have e5 : ar .mul .u64 1 (n : Int) = n := by show IntKind.u64.wrap _ = _; rw [Int.one_mul]; exact u64_wrap (by omega)
  have e6 : ar .mul .u64 0 (n : Int) = 0 := by show IntKind.u64.wrap _ = _; rw [Int.zero_mul]; rfl
  have e7 : ar .mul .u64 1 0 = 0 := rfl
  have e8 : ar .mul .u64 0 0 = 0 := rfl
  have e9 : ar .add .u64 0 0 = 0 := rfl
  have e10 : ar .and .u64 0 4294967295 = 0 := rfl
  have e11 : ar .shr .u64 0 32 = 0 := rfl
  repeat' (first | refine C.seq ?_ | refine C.region ?_ | refine L.nil ?_ | refine D.seq ?_ | refine L.move (k := ?_) | refine L.assign (k := ?_) | refine L.ar (c := ?_) | refine C.ret ?_)
  (refine D.ret (vs := [_, _]) (RV.tmp rfl (RV.tmp rfl RV.nil)) ?_; intro w' hw; exact Post.mk (is := []) hw List.nodup_nil rfl ⟨rfl, rfl⟩)
theorem bmul_S (n : Nat) (hn : n ≤ 65536) : Ctr Try.prog 97 [.int .u64 1, .int .u64 (n : Int)] [] tt (is2 (.int .u64 0) (.int .u64 (n : Int))) := by
  refine Ctr.enter Try.func97 Try.ntmps97 rfl rfl (fun w _ => ?_)
  repeat' (first | refine C.seq ?_ | refine C.region ?_ | refine L.nil ?_ | refine D.seq ?_ | refine L.move (k := ?_) | refine L.assign (k := ?_) | refine L.extract (c := ?_) | refine C.no (h1 := ?_) | refine C.ret ?_ | refine C.skip ?_ | refine L.callQ (mul64_S n hn) (k := ?_))
  (refine D.ret (vs := [_, _]) (RV.tmp rfl (RV.tmp rfl RV.nil)) ?_; intro w' hw; exact Post.mk (is := []) hw List.nodup_nil rfl ⟨rfl, rfl⟩)
def repL (n q : Nat) (x : Int) : List Value := List.replicate q (int x) ++ List.replicate (n - q) (int 0)
theorem repL_len {n q : Nat} {x : Int} (h : q ≤ n) : (repL n q x).length = n := by unfold repL; simp; omega
theorem repL_step {n q d : Nat} {x : Int} (h : q + d ≤ n) : setL (repL n q x) q (List.replicate d (int x)) = repL n (q + d) x := by
  have e : repL n q x = List.replicate q (int x) ++ List.replicate d (int 0) ++ List.replicate (n - q - d) (int 0) := by
    unfold repL
    rw [List.append_assoc, List.replicate_append_replicate]
    congr 2; omega
  have := setL_all (List.replicate d (int x)) (List.replicate q (int x)) (List.replicate (n - q - d) (int 0)) (List.replicate d (int 0)) (by simp)
  rw [List.length_replicate, ← e] at this
  rw [this]
  unfold repL
  rw [List.replicate_append_replicate]
  congr 2; omega
theorem repL_take {n q : Nat} {x : Int} : (repL n q x).take (q * 1) = List.replicate q (int x) := by
  unfold repL; rw [Nat.mul_one, List.take_append_of_le_length (by simp), List.take_of_length_le (by simp)]
set_option maxHeartbeats 4000000 in
theorem repeat_S (v : Value) (x : Int) (n : Nat) (hn : n ≤ 65536) : Ctr Try.prog 87 [v, .int .i64 (n : Int)] [] (fun w => Rd w [] v 1 [int x])
    (fun u B => ∃ eb, u = shut [.slice (some ⟨eb, 0, none⟩) n n] ∧ B = [(eb, ob (List.replicate n (int x)) 3)]) := by
  refine Ctr.enter Try.func87 Try.ntmps87 rfl rfl (fun w hr => ?_)
  have sv := hr.1
  have c1 : cm .lss (n : Int) 0 = false := cm_lo' (by omega)
  have w1 : IntKind.u64.wrap ((1 : Nat) : Int) = 1 := rfl
  have w2 : IntKind.u64.wrap (n : Int) = n := u64_wrap (by omega)
  have w3 : IntKind.i64.wrap (n : Int) = n := wrap_nat (by omega)
  have c2 : cm .gtr (0 : Int) 0 = false := rfl
  have c3 : cm .gtr (n : Int) 9223372036854775807 = false := cm_gt' (by omega)
  repeat' (first | refine L.convI (hz := w1) (c := ?_) | refine L.convI (hz := w2) (c := ?_) | refine L.convI (hz := w3) (c := ?_) | refine C.seq ?_ | refine C.region ?_ | refine L.nil ?_ | refine D.seq ?_ | refine L.move (k := ?_) | refine L.assign (k := ?_) | refine L.cm (c := ?_) | refine L.extract (c := ?_) | refine C.no (h1 := ?_) | refine L.pickF (k := ?_) | refine L.want (k := ?_) | refine C.skip ?_ | refine L.lenR sv (c := ?_) | refine L.callQ (bmul_S n hn) (k := ?_) | refine L.makeZ (m := n) rfl (by omega) (by unfold maxLen; omega) (c := fun eb => ?_))
  obtain ⟨c0, hc0⟩ : ∃ c, Nat.min 1 n = c := ⟨_, rfl⟩
  have hc0n : c0 ≤ n := by rw [← hc0]; exact Nat.min_le_right _ _
  have hc01 : c0 ≤ 1 := by rw [← hc0]; exact Nat.min_le_left _ _
  have hs0 : setL (List.replicate n (int 0)) 0 (([int x] : List Value).take c0) = repL n c0 x := by
    have := repL_step (n := n) (q := 0) (d := c0) (x := x) (by omega)
    rw [Nat.zero_add] at this
    rw [← this, show repL n 0 x = List.replicate n (int 0) by simp [repL]]
    congr 1
    rcases Nat.le_one_iff_eq_zero_or_eq_one.1 hc01 with h | h <;> rw [h] <;> rfl
  refine L.copyV 0 (hi := rfl) (b := eb) (o := 0) (len := n) (k := 1) (c := c0) (cs := [int x]) (SlV.mk _ _ (Nat.le_refl _)) (fun _ => ⟨rfl, rfl⟩) (fun w1 hw => hr.at hw) rfl rfl hc0 (by simp) (M' := [(eb, ob (repL n c0 x) 3)]) (hM := by simp only [hset]; rw [hs0]) (k' := ?_)
  repeat' (first | refine C.seq ?_ | refine L.nil ?_ | refine D.seq ?_ | refine L.assign (k := ?_) | refine C.block ?_)
  refine C.loop (α := Nat) (fun q => q ≤ n ∧ (0 < q ∨ n = 0)) (fun q => [(7, .slice (some ⟨eb, 0, none⟩) n n), (8, .int .i64 (q : Int))]) (fun q => [(eb, ob (repL n q x) 3)]) (fun q => n - q) c0 (fun a w hs => hs.lessE rfl (lk_cons rfl (lk_cons rfl (fun _ _ h => lk_nil h)))) ⟨hc0n, by
    rcases Nat.eq_zero_or_pos n with h | h
    · exact .inr h
    · left; rw [← hc0]; exact Nat.lt_min.2 ⟨by decide, h⟩⟩ ?_
  rintro q ⟨hq, hq0⟩
  rcases Nat.lt_or_ge q n with hlt | hge
  · have k1 : cm .lss (q : Int) n = true := cm_lo (by omega)
    obtain ⟨c, hc⟩ : ∃ c, Nat.min q (n - q) = c := ⟨_, rfl⟩
    have hcq : c ≤ q := by rw [← hc]; exact Nat.min_le_left _ _
    have hcn : c ≤ n - q := by rw [← hc]; exact Nat.min_le_right _ _
    have hc1 : 0 < c := by rw [← hc]; exact Nat.lt_min.2 ⟨by omega, by omega⟩
    have k2 : ar .add .i64 (q : Int) c = ((q + c : Nat) : Int) := by
      show IntKind.i64.wrap _ = _
      rw [wrap_nat (by omega)]; omega
    have hst := repL_step (n := n) (q := q) (d := c) (x := x) (by omega)
    have htk : (List.replicate q (int x)).take c = List.replicate c (int x) := by rw [List.take_replicate, Nat.min_eq_left hcq]
    repeat' (first | refine C.make [] (by kernel_rfl) (h := ?_) | refine C.seq ?_ | refine C.region ?_ | refine L.nil ?_ | refine D.seq ?_ | refine L.move (k := ?_) | refine L.cm (c := ?_) | refine C.yes (h1 := ?_) | refine L.lenV (c := ?_) | refine C.block ?_ | refine C.skip ?_ | refine L.lenR (SlV.mk _ _ (Nat.le_refl _)) (c := ?_))
    iterate 7 ((refine QP.quiet (v := ?_) (by exact rfl) (by exact rfl) (fun w1 g1 => ?_) ?_; rotate_left); repeat (first | refine L.nil ?_ | refine L.move (k := ?_) | exact D.endsQ | refine L.sliceK (lo := q) (hi := n) (Nat.le_refl _) hq (Nat.le_refl _) hlt (hy := .inr ⟨_, _, rfl, rfl⟩) (hz := .inl ⟨rfl, rfl⟩) (c := ?_) | refine L.sliceK (lo := 0) (hi := q) (Nat.le_refl _) (Nat.zero_le _) hq (by omega) (hy := .inl ⟨rfl, rfl⟩) (hz := .inr ⟨_, _, rfl, rfl⟩) (c := ?_)))
    refine QP.mk0 [(eb, ob (repL n q x) 3)] (fun F B => F = [(45, .int .i64 (c : Int))] ∧ B = [(eb, ob (repL n (q + c) x) 3)]) (h := fun w1 g1 => ?_) (k := ?_)
    · simp only [List.cons_append, List.nil_append] at g1 ⊢
      refine L.copyV 0 (dv := .slice (some ⟨eb, 0 + q * 1, none⟩) (n - q) (n - q)) (hi := rfl) (b := eb) (o := q) (len := n - q) (k := q) (c := c) (cs := List.replicate q (int x)) (SlV.mk _ _ (by omega)) (fun _ => ⟨rfl, by simp [sO]⟩) (fun w1 hw => ?_) (by simp) (by simp [oneB]) hc (by rw [repL_len hq]; omega) (M' := [(eb, ob (repL n (q + c) x) 3)]) (hM := by simp only [hset]; rw [htk, hst]) (k' := ?_)
      · exact Rd.own (hw.holds _ List.mem_cons_self) (by simp) (by omega) _ repL_take
      · refine L.nil ?_
        exact D.endsP1 [_] (hR := ⟨rfl, rfl⟩)
    refine QP.mk1 7 [] (fun F B => F = [(46, .int .i64 ((q + c : Nat) : Int))] ∧ B = [(eb, ob (repL n (q + c) x) 3)]) (h := ?_) (k := ?_)
    · rintro F B ⟨rfl, rfl⟩ w1 g1
      repeat (first | refine L.nil ?_ | refine L.ar (c := ?_))
      exact D.endsP1 [_] (hR := ⟨rfl, rfl⟩)
    refine QP.mk1 8 [] (fun F B => F = [(8, .int .i64 ((q + c : Nat) : Int))] ∧ B = [(eb, ob (repL n (q + c) x) 3)]) (h := ?_) (k := ?_)
    · rintro F B ⟨rfl, rfl⟩ w1 g1
      repeat (first | refine L.nil ?_ | refine L.assign (k := ?_))
      exact D.endsP1 [_] (hR := ⟨rfl, rfl⟩)
    refine QP.fin1E [(7, .slice (some ⟨eb, 0, none⟩) n n)] (lk_cons rfl (fun _ _ h => lk_nil h)) [none, none, none, none, none, none, none, some [], some [7], some [8]] 9 (nds := [[], [], [], [], [], [], [], [], [], []]) (hM := List.Perm.refl _) (k := ?_)
    rintro F B ⟨rfl, rfl⟩
    simp only [List.cons_append, List.nil_append]
    repeat' (first | refine D.blkNormal ?_)
    exact D.then_ fun a1 w1 hs => ⟨q + c, ⟨by omega, .inl (by omega)⟩, by omega, hs.lessE rfl (lk_cons rfl (lk_cons rfl (fun _ _ h => lk_nil h)))⟩
  · have k1 : cm .lss (q : Int) n = false := cm_lo' (by omega)
    have hqn : q = n := by omega
    subst hqn
    repeat' (first | refine C.seq ?_ | refine C.region ?_ | refine L.nil ?_ | refine D.seq ?_ | refine L.move (k := ?_) | refine L.assign (k := ?_) | refine L.cm (c := ?_) | refine C.no (h1 := ?_) | refine L.lenV (c := ?_) | refine C.ret ?_ | refine C.exit ?_ | refine D.thenExit ?_ | refine D.blkExit ?_ | refine L.lenR (SlV.mk _ _ (Nat.le_refl _)) (c := ?_))
    (refine D.ret (vs := [_]) (RV.tmp rfl RV.nil) ?_; intro w' hw; exact Post.mkD 0 hw rfl ⟨eb, rfl, by unfold repL; simp⟩)
end Go.Proofs.Ytkjlgapkcdcmgaa
namespace Go.Proofs.Ytkjlgapkcdcmgaa
open Go Go.RowKit SL
attribute [local irreducible] SL.L SL.C SL.D SL.N SL.H SL.QL SL.QW SL.QP

def lRun (os : List Lop) : Nat → List Int
  | 0 => List.replicate os.length (-1)
  | i + 1 => if cm .eql (opAt os i).k 17 then ((lRun os i).set i (matchAt os i : Int)).set (matchAt os i) (i : Int) else lRun os i
theorem lRun_len (os : List Lop) : ∀ i, (lRun os i).length = os.length
  | 0 => by simp [lRun]
  | i + 1 => by unfold lRun; split <;> simp [lRun_len os i]
theorem lRun_at {os : List Lop} (hs : ∀ j, j < os.length → (opAt os j).k = 17 → stkAt os j ≠ []) : ∀ i, i ≤ os.length → ∀ k, (lRun os i)[k]? = if k < i then (eRun os i)[k]? else if k < os.length then some (-1) else none
  | 0, _, k => by
    unfold lRun
    rw [if_neg (by omega), List.getElem?_replicate]
  | i + 1, hi, k => by
    have ih := lRun_at hs i (by omega) k
    have hl := lRun_len os i
    have he := eRun_len os i
    unfold lRun eRun estep
    cases h17 : cm .eql (opAt os i).k 17 with
    | true =>
      simp only [if_true]
      have hk17 : (opAt os i).k = 17 := cm_yes' h17
      have hne := hs i (by omega) hk17
      have hmm : matchAt os i ∈ stkAt os i := by unfold matchAt; rw [List.getLast?_eq_some_getLast hne]; exact List.getLast_mem hne
      obtain ⟨hml, _⟩ := stk_mem i (by omega) _ hmm
      rw [List.getElem?_set, List.getElem?_set, ih, List.getElem?_set, List.getElem?_set, List.getElem?_set]
      simp only [List.length_set, hl, he]
      by_cases h1 : matchAt os i = k
      · rw [if_pos h1, if_pos h1, if_pos (show k < i + 1 by omega)]
      · rw [if_neg h1, if_neg h1]
        by_cases h2 : i = k
        · rw [if_pos h2, if_pos h2, if_pos (show k < i + 1 by omega)]
        · rw [if_neg h2, if_neg h2, if_neg h2]
          by_cases h3 : k < i
          · rw [if_pos h3, if_pos (show k < i + 1 by omega)]
          · rw [if_neg h3, if_neg (show ¬ k < i + 1 by omega)]
    | false =>
      simp only [Bool.false_eq_true, if_false]
      rw [ih, List.getElem?_set]
      simp only [he]
      by_cases h2 : i = k
      · rw [if_pos h2, if_neg (by omega), if_pos (show k < i + 1 by omega), if_pos (by omega), if_pos (by omega)]
      · rw [if_neg h2]
        by_cases h3 : k < i
        · rw [if_pos h3, if_pos (show k < i + 1 by omega)]
        · rw [if_neg h3, if_neg (show ¬ k < i + 1 by omega)]
theorem lRun_eq {os : List Lop} (hs : ∀ j, j < os.length → (opAt os j).k = 17 → stkAt os j ≠ []) : lRun os os.length = eRun os os.length := by
  apply List.ext_getElem?
  intro k
  rw [lRun_at hs _ (Nat.le_refl _)]
  split
  · rfl
  · rename_i h
    rw [List.getElem?_eq_none (by rw [eRun_len]; omega)]
set_option maxRecDepth 100000 in
set_option maxHeartbeats 8000000 in
theorem lends_S (regs : Int) (vb vo : Value) (os : List Lop) (hno : os.length ≤ 65536) (hsk : ∀ j, j < os.length → (opAt os j).k = 17 → stkAt os j ≠ []) : Ctr Try.prog 65 [progV regs vb vo] []
    (fun w => Rd w [] vo os.length (os.flatMap encO)) (fun v B => ∃ eb, v = shut [.slice (some ⟨eb, 0, none⟩) os.length os.length] ∧ B = [(eb, ob ((eRun os os.length).map int) 3)]) := by
  refine Ctr.enter Try.func65 Try.ntmps65 rfl rfl (fun w hr => ?_)
  have s2 := hr.1
  unfold progV
  repeat' (first | refine C.seq ?_ | refine C.region ?_ | refine L.nil ?_ | refine D.seq ?_ | refine L.assign (k := ?_) | refine L.fieldAddr (c := ?_) | refine L.load1 1 (c := ?_) | refine L.box (c := fun _ => ?_) | refine L.buildS (c := fun _ => ?_) | refine L.lenR s2 (c := ?_))
  rename_i pb b1
  refine L.callP [] (repeat_S (.slice (some ⟨b1, 0, none⟩) 1 1) (-1) os.length hno) (hpre := fun w1 hw => Rd.own (hw.holds _ List.mem_cons_self) (by simp) (Nat.le_refl _) 1 rfl) (k := ?_)
  rintro v B ⟨eb, rfl, rfl⟩
  rw [hdrop_nil]
  unfold shut
  simp only [List.cons_append, List.nil_append]
  repeat' (first | refine C.seq ?_ | refine C.region ?_ | refine L.nil ?_ | refine D.seq ?_ | refine L.move (k := ?_) | refine L.assign (k := ?_) | refine L.fieldAddr (c := ?_) | refine L.load1 2 (c := ?_) | refine C.block ?_ | refine D.seqR (h := ?_) | refine L.lenR s2 (c := ?_))
  refine C.perm (M' := (b1, ob [int (-1)] 3) :: (eb, ob (List.replicate os.length (int (-1))) 3) :: (pb, ob [.int .i64 regs, vb, vo] 25) :: []) (List.Perm.swap _ _ _) ?_
  refine C.loop (α := Nat × OS) (fun x => x.1 ≤ os.length ∧ osG 1 (stkAt os x.1).length ((stkAt os x.1).map (fun (j : Nat) => int (j : Int))) x.2)
    (fun x => [(1, .pointer (some ⟨pb, 0, none⟩)), (3, .slice (some ⟨eb, 0, none⟩) os.length os.length), (4, osV (stkAt os x.1).length x.2), (14, vo), (15, .int .i64 os.length), (16, .int .i64 x.1)])
    (fun x => (eb, ob ((lRun os x.1).map int) 3) :: (pb, ob [.int .i64 regs, vb, vo] 25) :: osC 3 x.2 []) (fun x => os.length - x.1) (0, none)
    (fun a w hs => hs.lessD 1 (by simp [lRun, osC]) (lk_cons rfl (lk_cons rfl (lk_cons rfl (lk_cons rfl (lk_cons rfl (lk_cons rfl (fun _ _ h => lk_nil h)))))))) ⟨Nat.zero_le _, osG.nil⟩ ?_
  rintro ⟨i, y⟩ ⟨hi, hG⟩
  simp only at hi hG ⊢
  rcases Nat.lt_or_ge i os.length with hlt | hge
  · have c2 : cm .lss (i : Int) os.length = true := cm_lo (by omega)
    obtain ⟨ho, hmem⟩ := opAt_lt hlt
    obtain ⟨o, hoe⟩ : ∃ o, opAt os i = o := ⟨_, rfl⟩
    rw [hoe] at ho hmem
    obtain ⟨ha0, hal⟩ := flat_at encO_len ho
    have ha := ha0.trans (encO_ex o)
    have o2 := hr.2 (by omega)
    have c3 : ar .add .i64 (i : Int) 1 = ((i + 1 : Nat) : Int) := wrap_nat (by omega)
    have hst := stk_succ ho
    have hel := lRun_len os i
    have hz : 0 + i * 1 = i := by omega
    have hsl : (stkAt os i).length ≤ i := stk_le os i
    by_cases h16 : o.k = 16
    · have k16 : cm .eql o.k 16 = true := cm_yes h16
      have k17 : cm .eql o.k 17 = false := cm_no (by omega)
      have her : lRun os (i + 1) = lRun os i := by
        show (if cm .eql (opAt os i).k 17 then _ else _) = _; rw [hoe, k17]; rfl
      have hss : stkAt os (i + 1) = stkAt os i ++ [i] := by rw [hst]; unfold stkF; rw [if_pos k16]
      repeat' (first | refine C.seq ?_ | refine C.region ?_ | refine L.nil ?_ | refine D.seq ?_ | refine L.move (k := ?_) | refine L.assign (k := ?_) | refine L.cm (c := ?_) | refine L.fieldAddr (c := ?_) | refine L.load1 0 (c := ?_) | refine L.storeV 0 (c := ?_) | refine L.alloc (c := fun _ => ?_) | refine C.yes (h1 := ?_) | refine C.block ?_ | refine C.skip ?_ | refine L.buildS (c := fun _ => ?_) | refine L.indexR s2 hlt (c := ?_) | refine L.loadOA o2 (i := i * 8) (ho := rfl) (hi := hal) (hcs := ha) (c := ?_) | refine L.lenR hG.sl (c := ?_))
      refine L.appendU [_, _, _, _] (u := .slice (some ⟨_, 0, none⟩) 1 1) (k := 1) (news := [int (i : Int)]) hG rfl (fun w hw => Rd.own (hw.holds _ List.mem_cons_self) (by simp) (Nat.le_refl _) 1 rfl) rfl (by intro u hu; simp at hu; subst hu; rfl) (by unfold maxLen; omega) (by omega) (c := fun y' hG' _ => ?_)
      repeat' (first | refine C.region ?_ | refine L.nil ?_ | refine D.seq ?_ | refine L.move (k := ?_) | refine L.assign (k := ?_) | refine L.ar (c := ?_) | refine D.blkNormal ?_)
      refine D.then_ fun a1 w1 hs => ⟨(i + 1, y'), ⟨by omega, ?_⟩, by simp only; omega, ?_⟩
      · rw [hss]; simpa using hG'
      · refine hs.lessD 2 (by rw [her]; rfl) ?_
        rw [hss]
        simp only [List.length_append, List.length_singleton]
        exact (lk_cons rfl (lk_cons rfl (lk_cons rfl (lk_cons rfl (lk_cons rfl (lk_cons rfl (fun _ _ h => lk_nil h)))))))
    have k16 : cm .eql o.k 16 = false := cm_no h16
    by_cases h17 : o.k = 17
    · have k17 : cm .eql o.k 17 = true := cm_yes h17
      have hne := hsk i hlt (by rw [hoe]; exact h17)
      have hpos := List.length_pos_iff.2 hne
      obtain ⟨k, hk⟩ : ∃ k, (stkAt os i).length = k + 1 := ⟨(stkAt os i).length - 1, by omega⟩
      have hmm : (stkAt os i)[k]? = some (matchAt os i) := by
        unfold matchAt
        rw [List.getLast?_eq_getElem?, show (stkAt os i).length - 1 = k by omega, List.getElem?_eq_getElem (by omega)]; rfl
      have hcell : ((stkAt os i).map (fun (j : Nat) => int (j : Int)))[k * 1 + 0]? = some (.int .i64 (matchAt os i : Int)) := by
        rw [Nat.mul_one, Nat.add_zero, List.getElem?_map, hmm]; rfl
      have hml := (stk_mem i hi _ (List.mem_of_getElem? hmm)).1
      have c4 : ar .sub .i64 ((stkAt os i).length : Int) 1 = (k : Int) := by
        show IntKind.i64.wrap _ = _
        rw [wrap_nat (by omega)]; omega
      have hkl : k < (stkAt os i).length := by omega
      have her : lRun os (i + 1) = ((lRun os i).set i (matchAt os i : Int)).set (matchAt os i) (i : Int) := by
        show (if cm .eql (opAt os i).k 17 then _ else _) = _; rw [hoe, k17]; rfl
      have hss : stkAt os (i + 1) = (stkAt os i).dropLast := by rw [hst]; unfold stkF; rw [if_neg (by rw [k16]; simp), if_pos k17]
      have hk2 : i < ((lRun os i).map int).length := by rw [List.length_map, hel]; exact hlt
      have hk3 : matchAt os i < (((lRun os i).set i (matchAt os i : Int)).map int).length := by rw [List.length_map, List.length_set, hel]; omega
      have hz3 : 0 + matchAt os i * 1 = matchAt os i := by omega
      have hmlt : matchAt os i < os.length := by omega
      have hM2 : ∀ (a : Nat × Obj) (Z : Hp), hset (a :: (eb, ob ((lRun os i).map int) 3) :: Z) 1 (ob (((lRun os i).map int).set i (.int .i64 (matchAt os i : Int))) 3) = a :: (eb, ob (((lRun os i).set i (matchAt os i : Int)).map int) 3) :: Z := fun a Z => by simp only [hset]; rw [List.map_set]
      have hM3 : ∀ (a : Nat × Obj) (Z : Hp), hset (a :: (eb, ob (((lRun os i).set i (matchAt os i : Int)).map int) 3) :: Z) 1 (ob ((((lRun os i).set i (matchAt os i : Int)).map int).set (matchAt os i) (.int .i64 (i : Int))) 3) = a :: (eb, ob ((((lRun os i).set i (matchAt os i : Int)).set (matchAt os i) (i : Int)).map int) 3) :: Z := fun a Z => by simp only [hset, List.map_set]
      repeat' (first | refine C.seq ?_ | refine C.region ?_ | refine L.nil ?_ | refine D.seq ?_ | refine L.move (k := ?_) | refine L.assign (k := ?_) | refine L.cm (c := ?_) | refine L.ar (c := ?_) | refine L.fieldAddr (c := ?_) | refine L.load1 0 (c := ?_) | refine L.storeV 0 (c := ?_) | refine L.alloc (c := fun _ => ?_) | refine C.yes (h1 := ?_) | refine C.no (h1 := ?_) | refine C.block ?_ | refine D.blkNormal ?_ | refine C.skip ?_ | refine L.indexR s2 hlt (c := ?_) | refine L.loadOA o2 (i := i * 8) (ho := rfl) (hi := hal) (hcs := ha) (c := ?_) | refine L.lenR hG.sl (c := ?_) | refine L.indexR hG.sl hkl (c := ?_) | refine L.indexP (k := i) (hi := rfl) (hk := hlt) (c := ?_) | refine L.indexP (k := matchAt os i) (hi := rfl) (hk := hmlt) (c := ?_) | refine L.storeK 1 hk2 hz (hM := hM2 _ _) (c := ?_) | refine L.storeK 1 hk3 hz3 (hM := hM3 _ _) (c := ?_) | refine L.loadU [_, _, _] (L2 := []) (i := k) (j := 0) hG rfl hkl (by decide) hcell (c := ?_) | refine L.cutU hG (k := k) (by omega) ⟨_, _, rfl, rfl⟩ (c := fun _ => ?_))
      refine D.then_ fun a1 w1 hs => ⟨(i + 1, y), ⟨by omega, ?_⟩, by simp only; omega, ?_⟩
      · rw [hss, List.length_dropLast, List.map_dropLast, List.dropLast_eq_take, List.length_map, hk]
        have := hG.cut (k := k) (by omega)
        simpa using this
      · refine hs.lessD 1 (by rw [her]; rfl) ?_
        rw [hss, List.length_dropLast, hk]
        exact (lk_cons rfl (lk_cons rfl (lk_cons rfl (lk_cons rfl (lk_cons rfl (lk_cons rfl (fun _ _ h => lk_nil h)))))))
    · have k17 : cm .eql o.k 17 = false := cm_no h17
      have her : lRun os (i + 1) = lRun os i := by
        show (if cm .eql (opAt os i).k 17 then _ else _) = _; rw [hoe, k17]; rfl
      have hss : stkAt os (i + 1) = stkAt os i := by rw [hst]; unfold stkF; rw [if_neg (by rw [k16]; simp), if_neg (by rw [k17]; simp)]
      repeat' (first | refine C.seq ?_ | refine C.region ?_ | refine L.nil ?_ | refine D.seq ?_ | refine L.move (k := ?_) | refine L.assign (k := ?_) | refine L.cm (c := ?_) | refine L.ar (c := ?_) | refine L.fieldAddr (c := ?_) | refine L.load1 0 (c := ?_) | refine L.storeV 0 (c := ?_) | refine L.alloc (c := fun _ => ?_) | refine C.yes (h1 := ?_) | refine C.no (h1 := ?_) | refine C.block ?_ | refine D.blkNormal ?_ | refine C.skip ?_ | refine L.indexR s2 hlt (c := ?_) | refine L.loadOA o2 (i := i * 8) (ho := rfl) (hi := hal) (hcs := ha) (c := ?_) | refine L.lenR hG.sl (c := ?_))
      refine D.then_ fun a1 w1 hs => ⟨(i + 1, y), ⟨by omega, by rw [hss]; exact hG⟩, by simp only; omega, ?_⟩
      refine hs.lessD 1 (by rw [her]; rfl) ?_
      rw [hss]
      exact (lk_cons rfl (lk_cons rfl (lk_cons rfl (lk_cons rfl (lk_cons rfl (lk_cons rfl (fun _ _ h => lk_nil h)))))))
  · have c2 : cm .lss (i : Int) os.length = false := cm_lo' (by omega)
    have hil : i = os.length := by omega
    subst hil
    rw [lRun_eq hsk]
    repeat' (first | refine C.seq ?_ | refine C.region ?_ | refine L.nil ?_ | refine D.seq ?_ | refine L.move (k := ?_) | refine L.assign (k := ?_) | refine L.cm (c := ?_) | refine C.no (h1 := ?_) | refine C.ret ?_ | refine C.exit ?_ | refine D.thenExit ?_ | refine D.blkExit ?_ | refine D.seqR (h := ?_))
    refine D.ret (vs := [_]) (RV.tmp rfl RV.nil) ?_
    intro w' hw
    exact Post.mk (is := [0]) hw (by decide) rfl ⟨eb, rfl, rfl⟩
/-- What Ends answers. -/
def endsR (regs : Int) (bs : List Bf) (os : List Lop) (v : Value) (B : Hp) : Prop :=
  if (checkM regs bs os).2 ≠ 0 then v = shut [nilV'] ∧ B = [] else ∃ eb, v = shut [.slice (some ⟨eb, 0, none⟩) os.length os.length] ∧ B = [(eb, ob ((eRun os os.length).map int) 3)]
where nilV' : Value := .slice none 0 0
theorem stk_all {regs : Int} {bs : List Bf} {os : List Lop} (he : (checkM regs bs os).2 = 0) : ∀ j, j < os.length → (opAt os j).k = 17 → stkAt os j ≠ [] := by
  obtain ⟨_, _, _, _, _, hh, _⟩ := check_ok he
  have hrun : (rrun regs bs os 0 ⟨List.replicate regs.toNat false, []⟩).2 = 0 := by
    have := he; unfold checkM at this; rw [hh] at this; exact this
  exact fun j hj hk => stk_len os 0 ⟨List.replicate regs.toNat false, []⟩ rfl hrun rfl j (Nat.zero_le _) hj hk
set_option maxHeartbeats 4000000 in
theorem lEnds_S (regs : Int) (vb vo : Value) (bs : List Bf) (os : List Lop) (hbl : bs.length ≤ maxLen) : Ctr Try.prog 44 [progV regs vb vo] []
    (fun w => Rd w [] vb bs.length (bs.flatMap encB) ∧ Rd w [] vo os.length (os.flatMap encO)) (endsR regs bs os) := by
  refine Ctr.enter Try.func44 Try.ntmps44 rfl rfl (fun w hr => ?_)
  unfold progV
  repeat' (first | refine C.seq ?_ | refine C.region ?_ | refine L.nil ?_ | refine D.seq ?_ | refine L.assign (k := ?_) | refine L.loadA 0 (c := ?_) | refine L.box (c := fun _ => ?_))
  rename_i pb
  refine L.callP [] (check_S regs vb vo bs os hbl) (hpre := fun w hw => ⟨hr.1.at hw, hr.2.at hw⟩) (k := ?_)
  rintro v B ⟨rfl, rfl⟩
  rw [hdrop_nil]
  unfold shut
  rw [List.nil_append]
  by_cases he : (checkM regs bs os).2 ≠ 0
  · have c1 : cm .neq (checkM regs bs os).2 0 = true := cm_ne he
    repeat' (first | refine C.seq ?_ | refine C.region ?_ | refine L.nil ?_ | refine D.seq ?_ | refine L.move (k := ?_) | refine L.assign (k := ?_) | refine L.cm (c := ?_) | refine L.extract (c := ?_) | refine C.yes (h1 := ?_) | refine C.ret ?_ | refine D.thenRet ?_)
    (refine D.ret (vs := [_]) (RV.tmp rfl RV.nil) ?_; intro w' hw; exact Post.mk (is := []) hw List.nodup_nil rfl (by unfold endsR; rw [if_pos he]; exact ⟨rfl, rfl⟩))
  · replace he : (checkM regs bs os).2 = 0 := by omega
    have c1 : cm .neq (checkM regs bs os).2 0 = false := cm_ne' he
    obtain ⟨_, h0, h64, h32, hno, hh, hrf⟩ := check_ok he
    repeat' (first | refine C.seq ?_ | refine C.region ?_ | refine L.nil ?_ | refine D.seq ?_ | refine L.move (k := ?_) | refine L.assign (k := ?_) | refine L.cm (c := ?_) | refine L.loadA 0 (c := ?_) | refine L.extract (c := ?_) | refine C.no (h1 := ?_) | refine C.skip ?_)
    refine L.callP [] (lends_S regs vb vo os hno (stk_all he)) (hpre := fun w hw => hr.2.at hw) (k := ?_)
    rintro v B ⟨eb, rfl, rfl⟩
    rw [hdrop_nil]
    unfold shut
    simp only [List.cons_append, List.nil_append]
    repeat' (first | refine L.nil ?_ | refine L.assign (k := ?_) | refine C.ret ?_ | refine D.seqR (h := ?_))
    (refine D.ret (vs := [_]) (RV.tmp rfl RV.nil) ?_; intro w' hw; exact Post.mk (is := [0]) hw (by decide) rfl (by unfold endsR; rw [if_neg (by omega)]; exact ⟨eb, rfl, rfl⟩))
set_option maxHeartbeats 4000000 in
theorem lrows_S (regs : Int) (vb vo v : Value) (bs : List Bf) (rs : Rws) (hbl : bs.length ≤ 1000000) : Ctr Try.prog 64 [progV regs vb vo, v] [] (fun w => Rd w [] vb bs.length (bs.flatMap encB) ∧ RdR w [] v rs) (is (.bool (rowsM bs rs)) []) := by
  refine Ctr.enter Try.func64 Try.ntmps64 rfl rfl (fun w hr => ?_)
  have s1 := hr.1.1
  have sv := hr.2.1.1
  unfold progV
  by_cases hl : rs.length ≠ bs.length
  · have c1 : cm .neq (rs.length : Int) bs.length = true := cm_ne (by omega)
    repeat' (first | refine C.seq ?_ | refine C.region ?_ | refine L.nil ?_ | refine D.seq ?_ | refine L.move (k := ?_) | refine L.assign (k := ?_) | refine L.cm (c := ?_) | refine L.fieldAddr (c := ?_) | refine L.load1 0 (c := ?_) | refine L.box (c := fun _ => ?_) | refine C.yes (h1 := ?_) | refine C.ret ?_ | refine D.thenRet ?_ | refine L.lenR s1 (c := ?_) | refine L.lenR sv (c := ?_))
    (refine D.ret (vs := [_]) (RV.tmp rfl RV.nil) ?_; intro w' hw; exact Post.mk (is := []) hw List.nodup_nil rfl ⟨by rw [show rowsM bs rs = false by unfold rowsM; rw [decide_eq_false hl, Bool.false_and]]; rfl, rfl⟩)
  replace hl : rs.length = bs.length := by omega
  have c1 : cm .neq (rs.length : Int) bs.length = false := cm_ne' (by omega)
  repeat' (first | refine C.seq ?_ | refine C.region ?_ | refine L.nil ?_ | refine D.seq ?_ | refine L.move (k := ?_) | refine L.assign (k := ?_) | refine L.cm (c := ?_) | refine L.fieldAddr (c := ?_) | refine L.load1 0 (c := ?_) | refine L.box (c := fun _ => ?_) | refine C.no (h1 := ?_) | refine C.block ?_ | refine C.skip ?_ | refine L.lenR s1 (c := ?_) | refine L.lenR sv (c := ?_))
  rename_i pb
  refine C.loop (α := Nat) (fun i => i ≤ bs.length ∧ ((bs.zip rs).take i).all (fun x => okRow x.1 x.2.2.length) = true) (fun i => [(1, v), (15, vb), (16, .int .i64 bs.length), (17, .int .i64 i)]) (fun _ => [(pb, ob [.int .i64 regs, vb, vo] 25)]) (fun i => bs.length - i) 0
    (fun a w hs => hs.lessE rfl (lk_cons rfl (lk_cons rfl (lk_cons rfl (lk_cons rfl (fun _ _ h => lk_nil h)))))) ⟨Nat.zero_le _, rfl⟩ ?_
  rintro i ⟨hi, ht⟩
  have hfin : rowsM bs rs = sizesM bs rs := by unfold rowsM; rw [decide_eq_true hl, Bool.true_and]
  rcases Nat.lt_or_ge i bs.length with hlt | hge
  · have c2 : cm .lss (i : Int) bs.length = true := cm_lo (by omega)
    obtain ⟨b, hb⟩ : ∃ b, bs[i]? = some b := ⟨_, List.getElem?_eq_getElem hlt⟩
    obtain ⟨r, hy⟩ : ∃ r, rs[i]? = some r := ⟨_, List.getElem?_eq_getElem (by omega)⟩
    have hlv : i < rs.length := by omega
    have o1 := hr.1.2 (by omega)
    have o2 := hr.2.1.2 (by omega)
    have hrr := hr.2.2 r (List.mem_of_getElem? hy)
    have hz := zip_at hb hy
    obtain ⟨hA0, hal⟩ := flat_at encB_len hb
    have hA := hA0.trans (encB_ex b)
    have c3 : ar .add .i64 (i : Int) 1 = ((i + 1 : Nat) : Int) := wrap_nat (by omega)
    have fin : ∀ n : Int, (okRow b r.2.length = cm .eql (r.2.length : Int) n) → okRow b r.2.length = !cm .neq (r.2.length : Int) n := fun n h => by
      rw [h]
      by_cases e : (r.2.length : Int) = n
      · rw [cm_yes e, cm_ne' e]; rfl
      · rw [cm_no e, cm_ne e]; rfl
    cases hk : cm .eql b.kind 3 with
    | true =>
      have hok := fin 0 (by unfold okRow; rw [if_pos hk])
      cases hq : cm .neq (r.2.length : Int) 0 with
      | false =>
        rw [hq] at hok
        repeat' (first | refine C.seq ?_ | refine C.region ?_ | refine L.nil ?_ | refine D.seq ?_ | refine L.move (k := ?_) | refine L.assign (k := ?_) | refine L.cm (c := ?_) | refine L.ar (c := ?_) | refine L.fieldAddr (c := ?_) | refine L.load1 0 (c := ?_) | refine L.storeV 0 (c := ?_) | refine L.alloc (c := fun _ => ?_) | refine C.yes (h1 := ?_) | refine C.no (h1 := ?_) | refine C.block ?_ | refine D.blkNormal ?_ | refine C.skip ?_ | refine L.indexR s1 hlt (c := ?_) | refine L.indexR sv hlv (c := ?_) | refine L.loadOA o1 (i := i * 3) (ho := rfl) (hi := hal) (hcs := hA) (c := ?_) | refine L.loadF o2 (enc_at (enc := Prod.fst) hy) (c := ?_) | refine L.lenR hrr.1 (c := ?_))
        exact D.then_ fun a1 w1 hs => ⟨i + 1, ⟨by omega, by rw [take_all hz, ht]; simpa using hok⟩, by omega, hs.lessD 1 rfl (lk_cons rfl (lk_cons rfl (lk_cons rfl (lk_cons rfl (fun _ _ h => lk_nil h)))))⟩
      | true =>
        rw [hq] at hok
        repeat' (first | refine C.seq ?_ | refine C.region ?_ | refine L.nil ?_ | refine D.seq ?_ | refine L.move (k := ?_) | refine L.assign (k := ?_) | refine L.cm (c := ?_) | refine L.fieldAddr (c := ?_) | refine L.load1 0 (c := ?_) | refine L.storeV 0 (c := ?_) | refine L.alloc (c := fun _ => ?_) | refine C.yes (h1 := ?_) | refine C.block ?_ | refine C.ret ?_ | refine D.thenRet ?_ | refine D.blkRet ?_ | refine C.skip ?_ | refine L.indexR s1 hlt (c := ?_) | refine L.indexR sv hlv (c := ?_) | refine L.loadOA o1 (i := i * 3) (ho := rfl) (hi := hal) (hcs := hA) (c := ?_) | refine L.loadF o2 (enc_at (enc := Prod.fst) hy) (c := ?_) | refine L.lenR hrr.1 (c := ?_))
        (refine D.ret (vs := [_]) (RV.tmp rfl RV.nil) ?_; intro w' hw; exact Post.mk (is := []) hw List.nodup_nil rfl ⟨by rw [hfin, show sizesM bs rs = false from all_no hz (by simpa using hok)]; rfl, rfl⟩)
    | false =>
      have hok := fin b.size (by unfold okRow; rw [if_neg (by rw [hk]; simp)])
      cases hq : cm .neq (r.2.length : Int) b.size with
      | false =>
        rw [hq] at hok
        repeat' (first | refine C.seq ?_ | refine C.region ?_ | refine L.nil ?_ | refine D.seq ?_ | refine L.move (k := ?_) | refine L.assign (k := ?_) | refine L.cm (c := ?_) | refine L.ar (c := ?_) | refine L.fieldAddr (c := ?_) | refine L.load1 0 (c := ?_) | refine L.storeV 0 (c := ?_) | refine L.alloc (c := fun _ => ?_) | refine C.yes (h1 := ?_) | refine C.no (h1 := ?_) | refine C.block ?_ | refine D.blkNormal ?_ | refine C.skip ?_ | refine L.indexR s1 hlt (c := ?_) | refine L.indexR sv hlv (c := ?_) | refine L.loadOA o1 (i := i * 3) (ho := rfl) (hi := hal) (hcs := hA) (c := ?_) | refine L.loadF o2 (enc_at (enc := Prod.fst) hy) (c := ?_) | refine L.lenR hrr.1 (c := ?_))
        exact D.then_ fun a1 w1 hs => ⟨i + 1, ⟨by omega, by rw [take_all hz, ht]; simpa using hok⟩, by omega, hs.lessD 1 rfl (lk_cons rfl (lk_cons rfl (lk_cons rfl (lk_cons rfl (fun _ _ h => lk_nil h)))))⟩
      | true =>
        rw [hq] at hok
        repeat' (first | refine C.seq ?_ | refine C.region ?_ | refine L.nil ?_ | refine D.seq ?_ | refine L.move (k := ?_) | refine L.assign (k := ?_) | refine L.cm (c := ?_) | refine L.fieldAddr (c := ?_) | refine L.load1 0 (c := ?_) | refine L.storeV 0 (c := ?_) | refine L.alloc (c := fun _ => ?_) | refine C.yes (h1 := ?_) | refine C.no (h1 := ?_) | refine C.block ?_ | refine C.ret ?_ | refine D.thenRet ?_ | refine D.blkRet ?_ | refine C.skip ?_ | refine L.indexR s1 hlt (c := ?_) | refine L.indexR sv hlv (c := ?_) | refine L.loadOA o1 (i := i * 3) (ho := rfl) (hi := hal) (hcs := hA) (c := ?_) | refine L.loadF o2 (enc_at (enc := Prod.fst) hy) (c := ?_) | refine L.lenR hrr.1 (c := ?_))
        (refine D.ret (vs := [_]) (RV.tmp rfl RV.nil) ?_; intro w' hw; exact Post.mk (is := []) hw List.nodup_nil rfl ⟨by rw [hfin, show sizesM bs rs = false from all_no hz (by simpa using hok)]; rfl, rfl⟩)
  · have c2 : cm .lss (i : Int) bs.length = false := cm_lo' (by omega)
    repeat' (first | refine C.seq ?_ | refine C.region ?_ | refine L.nil ?_ | refine D.seq ?_ | refine L.assign (k := ?_) | refine L.cm (c := ?_) | refine C.no (h1 := ?_) | refine C.ret ?_ | refine C.exit ?_ | refine D.thenExit ?_ | refine D.blkExit ?_)
    rw [List.take_of_length_le (by simp; omega)] at ht
    (refine D.ret (vs := [_]) (RV.tmp rfl RV.nil) ?_; intro w' hw; exact Post.mk (is := []) hw List.nodup_nil rfl ⟨by rw [hfin, show sizesM bs rs = true from ht]; rfl, rfl⟩)
end Go.Proofs.Ytkjlgapkcdcmgaa
namespace Go.Proofs.Ytkjlgapkcdcmgaa
open Go Go.RowKit SL
attribute [local irreducible] SL.L SL.C SL.D SL.N SL.H SL.QL SL.QW SL.QP

def lvl (s : Int) (a b : List Int) : List Value := ((a ++ [s]).zip (1 :: b)).flatMap (fun p => [int p.1, int p.2])
theorem lvl_nil (s : Int) : lvl s [] [] = [int s, int 1] := rfl
theorem lvl_snoc (s u t : Int) (a b : List Int) (h : a.length = b.length) : lvl s (a ++ [u]) (b ++ [t]) = lvl u a b ++ [int s, int t] := by
  unfold lvl
  rw [show (1 : Int) :: (b ++ [t]) = (1 :: b) ++ [t] from rfl, List.zip_append (by simp [h]), List.flatMap_append]
  rfl
theorem lvl_len (s : Int) (a b : List Int) (h : a.length = b.length) : (lvl s a b).length = (a.length + 1) * 2 := by
  unfold lvl
  rw [flat_len (n := 2) (fun _ => rfl)]
  simp [h]
theorem lvl_top (a b : List Int) (h : a.length = b.length) : ∃ y : List Value, y.length = a.length * 2 ∧ ∀ s, lvl s a b = y ++ [int s, int (lastD b 1)] := by
  rcases List.eq_nil_or_concat a with rfl | ⟨a', u, rfl⟩
  · have : b = [] := List.eq_nil_of_length_eq_zero (by simpa using h.symm)
    subst this
    exact ⟨[], rfl, fun s => rfl⟩
  · rcases List.eq_nil_or_concat b with rfl | ⟨b', t, rfl⟩
    · simp at h
    · have h' : a'.length = b'.length := by simpa using h
      refine ⟨lvl u a' b', by rw [lvl_len _ _ _ h']; simp, fun s => ?_⟩
      rw [List.concat_eq_append, List.concat_eq_append, lvl_snoc _ _ _ _ _ h']
      simp [lastD]
theorem lvl_set (s v : Int) (a b : List Int) (h : a.length = b.length) : (lvl s a b).set (a.length * 2 + 0) (int v) = lvl v a b := by
  obtain ⟨y, hy, hs⟩ := lvl_top a b h
  rw [hs, hs, Nat.add_zero, List.set_append_right _ _ (by omega), hy, Nat.sub_self]
  rfl
theorem lvl_at0 (s : Int) (a b : List Int) (h : a.length = b.length) : (lvl s a b)[a.length * 2 + 0]? = some (int s) := by
  obtain ⟨y, hy, hs⟩ := lvl_top a b h
  rw [hs, Nat.add_zero, List.getElem?_append_right (by omega), hy, Nat.sub_self]; rfl
theorem lvl_at1 (s : Int) (a b : List Int) (h : a.length = b.length) : (lvl s a b)[a.length * 2 + 1]? = some (int (lastD b 1)) := by
  obtain ⟨y, hy, hs⟩ := lvl_top a b h
  rw [hs, List.getElem?_append_right (by omega), hy, show a.length * 2 + 1 - a.length * 2 = 1 by omega]; rfl
theorem capM_comm (a b : Int) : capM (a + b) = capM (b + a) := by rw [Int.add_comm]
set_option maxRecDepth 100000 in
set_option maxHeartbeats 8000000 in
theorem lsteps_S (regs : Int) (vb vo : Value) (bs : List Bf) (os : List Lop) (hbl : bs.length ≤ maxLen) : Ctr Try.prog 32 [progV regs vb vo] []
    (fun w => Rd w [] vb bs.length (bs.flatMap encB) ∧ Rd w [] vo os.length (os.flatMap encO)) (is (.int .i64 (stepsR regs bs os)) []) := by
  refine Ctr.enter Try.func32 Try.ntmps32 rfl rfl (fun w hr => ?_)
  have s2 := hr.2.1
  unfold progV
  repeat' (first | refine C.seq ?_ | refine C.region ?_ | refine L.nil ?_ | refine D.seq ?_ | refine L.assign (k := ?_) | refine L.loadA 0 (c := ?_) | refine L.box (c := fun _ => ?_))
  rename_i pb
  refine L.callP [] (check_S regs vb vo bs os hbl) (hpre := fun w hw => ⟨hr.1.at hw, hr.2.at hw⟩) (k := ?_)
  rintro v B ⟨rfl, rfl⟩
  rw [hdrop_nil]
  unfold shut
  rw [List.nil_append]
  by_cases he : (checkM regs bs os).2 ≠ 0
  · have c1 : cm .neq (checkM regs bs os).2 0 = true := cm_ne he
    repeat' (first | refine C.seq ?_ | refine C.region ?_ | refine L.nil ?_ | refine D.seq ?_ | refine L.move (k := ?_) | refine L.assign (k := ?_) | refine L.cm (c := ?_) | refine L.extract (c := ?_) | refine C.yes (h1 := ?_) | refine C.ret ?_ | refine D.thenRet ?_)
    (refine D.ret (vs := [_]) (RV.tmp rfl RV.nil) ?_; intro w' hw; exact Post.mk (is := []) hw List.nodup_nil rfl ⟨by unfold stepsR; rw [if_neg he]; rfl, rfl⟩)
  replace he : (checkM regs bs os).2 = 0 := by omega
  have c1 : cm .neq (checkM regs bs os).2 0 = false := cm_ne' he
  obtain ⟨_, h0, h64, _, hno, hh, _⟩ := check_ok he
  have hrun : (rrun regs bs os 0 ⟨List.replicate regs.toNat false, []⟩).2 = 0 := by
    have := he; unfold checkM at this; rw [hh] at this; exact this
  repeat' (first | refine C.seq ?_ | refine C.region ?_ | refine L.nil ?_ | refine D.seq ?_ | refine L.move (k := ?_) | refine L.assign (k := ?_) | refine L.cm (c := ?_) | refine L.fieldAddr (c := ?_) | refine L.load1 1 (c := ?_) | refine L.extract (c := ?_) | refine L.build (c := ?_) | refine C.no (h1 := ?_) | refine C.block ?_ | refine C.skip ?_ | refine L.buildS (c := fun _ => ?_) | refine L.lenR s2 (c := ?_))
  rename_i lb
  refine C.perm (M' := (pb, ob [.int .i64 regs, vb, vo] 25) :: osC 90 (some (lb, [int 0, int 1], 1)) []) (List.Perm.swap _ _ _) ?_
  refine C.loop (α := Nat × SS × Ck × OS) (fun y => y.1 ≤ os.length ∧ y.2.1 = (os.take y.1).foldl sstep (0, [], []) ∧ SOk y.2.1 y.2.2.1 ∧ y.2.2.1.loops.length ≤ 8 ∧ (rrun regs bs (os.drop y.1) y.1 y.2.2.1).2 = 0 ∧ osG 2 (y.2.1.2.1.length + 1) (lvl y.2.1.1 y.2.1.2.1 y.2.1.2.2) y.2.2.2)
    (fun y => [(5, osV (y.2.1.2.1.length + 1) y.2.2.2), (21, vo), (22, .int .i64 os.length), (23, .int .i64 y.1)])
    (fun y => (pb, ob [.int .i64 regs, vb, vo] 25) :: osC 90 y.2.2.2 []) (fun y => os.length - y.1) (0, (0, [], []), ⟨List.replicate regs.toNat false, []⟩, some (lb, [int 0, int 1], 1))
    (fun a w hs => hs.lessE rfl (lk_cons rfl (lk_cons rfl (lk_cons rfl (lk_cons rfl (fun _ _ h => lk_nil h)))))) ⟨Nat.zero_le _, rfl, ⟨rfl, rfl, by simp only; omega, (fun u hu => by cases hu), (fun u hu => by cases hu)⟩, by simp, hrun, (⟨rfl, Nat.le_refl _, (show 1 ≤ maxLen by unfold maxLen; omega), rfl⟩ : osG 2 1 [int 0, int 1] (some (lb, [int 0, int 1], 1)))⟩ ?_
  rintro ⟨i, x, c, y⟩ ⟨hi, hx, hS, hc8, hrn, hG⟩
  simp only at hi hx hS hc8 hrn hG ⊢
  have hll : x.2.1.length = x.2.2.length := by rw [hS.l1, hS.l2]
  have hs0 := hS.s0
  have hl1 := hS.l1
  have htop : x.2.1.length < x.2.1.length + 1 := by omega
  have c4 : ar .sub .i64 ((x.2.1.length + 1 : Nat) : Int) 1 = (x.2.1.length : Int) := by
    show IntKind.i64.wrap _ = _
    rw [wrap_nat (by omega)]; omega
  have hu0 := lvl_at0 x.1 x.2.1 x.2.2 hll
  have hu1 := lvl_at1 x.1 x.2.1 x.2.2 hll
  rcases Nat.lt_or_ge i os.length with hlt | hge
  · have c2 : cm .lss (i : Int) os.length = true := cm_lo (by omega)
    obtain ⟨o, ho⟩ : ∃ o, os[i]? = some o := ⟨_, List.getElem?_eq_getElem hlt⟩
    have hdr : os.drop i = o :: os.drop (i + 1) := by
      rw [List.drop_eq_getElem?_toList_append, ho]; rfl
    rw [hdr] at hrn
    unfold rrun at hrn
    cases hst : rstep regs bs c o with
    | inl e => rw [hst] at hrn; have := rstep_ne hst; simp only at hrn; omega
    | inr c' =>
    rw [hst] at hrn
    simp only at hrn
    obtain ⟨hf, l16, l17, l0⟩ := rstep_loops hst
    have hS' := sstep_ok hS hst
    have hx' := fold_take ho (0, [], [])
    rw [← hx] at hx'
    have hc8' := (rstep_inv hst).2.1 hc8
    obtain ⟨ha0, hal⟩ := flat_at encO_len ho
    have ha := ha0.trans (encO_ex o)
    have o2 := hr.2.2 (by omega)
    have c3 : ar .add .i64 (i : Int) 1 = ((i + 1 : Nat) : Int) := wrap_nat (by omega)
    by_cases h16 : o.k = 16
    · have k16 : cm .eql o.k 16 = true := cm_yes h16
      have him := loop_imm hf h16
      have hcv : IntKind.i64.wrap o.imm = o.imm := wrap_nat (by omega)
      have hx2 : sstep x o = (1, x.2.1 ++ [x.1], x.2.2 ++ [o.imm]) := by unfold sstep; rw [if_pos k16]
      repeat' (first | refine L.convI (hz := hcv) (c := ?_) | refine C.seq ?_ | refine C.region ?_ | refine L.nil ?_ | refine D.seq ?_ | refine L.move (k := ?_) | refine L.assign (k := ?_) | refine L.cm (c := ?_) | refine L.ar (c := ?_) | refine L.fieldAddr (c := ?_) | refine L.load1 0 (c := ?_) | refine L.storeV 0 (c := ?_) | refine L.build (c := ?_) | refine L.alloc (c := fun _ => ?_) | refine C.yes (h1 := ?_) | refine C.block ?_ | refine C.skip ?_ | refine L.buildS (c := fun _ => ?_) | refine L.indexR s2 hlt (c := ?_) | refine L.loadOA o2 (i := i * 8) (ho := rfl) (hi := hal) (hcs := ha) (c := ?_) | refine L.lenR hG.sl (c := ?_) | refine L.indexR hG.sl htop (c := ?_))
      refine L.appendU [_, _, _] (u := .slice (some ⟨_, 0, none⟩) 1 1) (k := 1) (news := [int 1, int o.imm]) hG rfl (fun w hw => Rd.own (hw.holds _ List.mem_cons_self) (by simp) (Nat.le_refl _) 2 rfl) rfl (by intro u hu; simp at hu; rcases hu with rfl | rfl <;> rfl) (by unfold maxLen; omega) (by omega) (c := fun y' hG' _ => ?_)
      repeat' (first | refine C.region ?_ | refine L.nil ?_ | refine D.seq ?_ | refine L.move (k := ?_) | refine L.assign (k := ?_) | refine L.ar (c := ?_) | refine D.blkNormal ?_)
      refine D.then_ fun a1 w1 hs => ⟨(i + 1, sstep x o, c', y'), ⟨by omega, hx'.symm, hS', hc8', hrn, ?_⟩, by simp only; omega, ?_⟩
      · rw [hx2]; simp only [List.length_append, List.length_singleton]
        rw [lvl_snoc _ _ _ _ _ hll]; exact hG'
      · refine hs.lessD 2 rfl ?_
        rw [hx2]
        simp only [List.length_append, List.length_singleton]
        exact (lk_cons rfl (lk_cons rfl (lk_cons rfl (lk_cons rfl (fun _ _ h => lk_nil h)))))
    have k16 : cm .eql o.k 16 = false := cm_no h16
    by_cases h17 : o.k = 17
    · have k17 : cm .eql o.k 17 = true := cm_yes h17
      obtain ⟨e1, e2⟩ := l17 h17
      have hn := List.length_pos_iff.2 e1
      obtain ⟨A, u, hAu⟩ : ∃ A u, x.2.1 = A ++ [u] := by
        rcases List.eq_nil_or_concat x.2.1 with h | ⟨A, u, h⟩
        · rw [h] at hl1; simp at hl1; omega
        · exact ⟨A, u, by rw [h, List.concat_eq_append]⟩
      obtain ⟨B, t, hBt⟩ : ∃ B t, x.2.2 = B ++ [t] := by
        rcases List.eq_nil_or_concat x.2.2 with h | ⟨B, t, h⟩
        · rw [hAu, h] at hll; simp at hll
        · exact ⟨B, t, by rw [h, List.concat_eq_append]⟩
      have hAB : A.length = B.length := by rw [hAu, hBt] at hll; simpa using hll
      have hlA : x.2.1.length = A.length + 1 := by rw [hAu]; simp
      have hla : lastD x.2.1 0 = u := by rw [hAu]; simp [lastD]
      have hlb : lastD x.2.2 1 = t := by rw [hBt]; simp [lastD]
      have hda : x.2.1.dropLast = A := by rw [hAu]; simp
      have hdb : x.2.2.dropLast = B := by rw [hBt]; simp
      have b1 := hS.s1 u (by rw [hAu]; simp)
      have b2 := hS.t t (by rw [hBt]; simp)
      have hlv : lvl x.1 x.2.1 x.2.2 = lvl u A B ++ [int x.1, int t] := by rw [hAu, hBt]; exact lvl_snoc _ _ _ _ _ hAB
      have htop' : A.length + 1 < x.2.1.length + 1 := by omega
      have hu0' : (lvl x.1 x.2.1 x.2.2)[(A.length + 1) * 2 + 0]? = some (.int .i64 x.1) := by rw [← hlA]; exact hu0
      have hu1' : (lvl x.1 x.2.1 x.2.2)[(A.length + 1) * 2 + 1]? = some (.int .i64 t) := by rw [← hlA, ← hlb]; exact hu1
      have c4' : ar .sub .i64 ((x.2.1.length + 1 : Nat) : Int) 1 = ((A.length + 1 : Nat) : Int) := by rw [c4, hlA]
      clear c4
      have c5 : ar .sub .i64 ((A.length + 1 : Nat) : Int) 1 = (A.length : Int) := by
        show IntKind.i64.wrap _ = _
        rw [wrap_nat (by omega)]; omega
      have hup : A.length < A.length + 1 := by omega
      have hG2 : osG 2 (A.length + 1) (lvl u A B) y := by
        have := hG.cut (k := A.length + 1) (by omega)
        rwa [hlv, List.take_append_of_le_length (by rw [lvl_len _ _ _ hAB]; exact Nat.le_refl _), List.take_of_length_le (by rw [lvl_len _ _ _ hAB]; exact Nat.le_refl _)] at this
      have hv0 := lvl_at0 u A B hAB
      have hquo : arOk .quo .i64 .i64 t = true := by simp [arOk]; omega
      have hq0 : 0 ≤ (1125899906842624 : Int).tdiv t ∧ (1125899906842624 : Int).tdiv t ≤ 1125899906842624 := ⟨Int.tdiv_nonneg (by omega) (by omega), Int.tdiv_le_self _ (by omega)⟩
      have cq : ar .quo .i64 1125899906842624 t = (1125899906842624 : Int).tdiv t := wrap_big (by omega)
      cases hgt : cm .leq x.1 ((1125899906842624 : Int).tdiv t) with
      | false =>
        have hcg : cm .gtr x.1 ((1125899906842624 : Int).tdiv t) = true := by simp [cm] at hgt ⊢; omega
        have hx2 : sstep x o = (capM (u + 1125899906842624), A, B) := by
          unfold sstep; rw [if_neg (by rw [k16]; simp), if_pos k17, hla, hlb, hda, hdb, if_pos hcg, capM_comm]
        have ca : ar .add .i64 u 1125899906842624 = u + 1125899906842624 := wrap_big (by omega)
        repeat' (first | refine C.seq ?_ | refine C.region ?_ | refine L.nil ?_ | refine D.seq ?_ | refine L.move (k := ?_) | refine L.assign (k := ?_) | refine L.cm (c := ?_) | refine L.ar (c := ?_) | refine L.fieldAddr (c := ?_) | refine L.load1 0 (c := ?_) | refine L.storeV 0 (c := ?_) | refine L.alloc (c := fun _ => ?_) | refine L.nilCheck (k := ?_) | refine C.yes (h1 := ?_) | refine C.no (h1 := ?_) | refine C.block ?_ | refine C.skip ?_ | exact D.endsQ | refine QL.fin ?_ | (refine QL.step (v := ?_) (by exact rfl) (by exact rfl) ?_ ?_; rotate_left) | refine L.indexR s2 hlt (c := ?_) | refine L.loadOA o2 (i := i * 8) (ho := rfl) (hi := hal) (hcs := ha) (c := ?_) | refine L.lenR hG.sl (c := ?_) | refine L.indexR hG.sl htop' (c := ?_) | refine L.loadU [_, _] (L2 := []) (i := A.length + 1) (j := 0) hG rfl htop' (by decide) hu0' (c := ?_) | refine L.loadU [_, _] (L2 := []) (i := A.length + 1) (j := 1) hG rfl htop' (by decide) hu1' (c := ?_) | refine L.ar (op := .quo) (ho := hquo) (hz := cq) (c := ?_) | refine C.quiet (h := ?_))
        refine L.cutU hG (k := A.length + 1) (by omega) ⟨_, _, rfl, rfl⟩ (c := fun _ => ?_)
        repeat' (first | refine L.minI (z := capM _) (hz := rfl) (c := ?_) | refine C.seq ?_ | refine C.region ?_ | refine L.nil ?_ | refine D.seq ?_ | refine L.move (k := ?_) | refine L.assign (k := ?_) | refine L.ar (c := ?_) | refine L.fieldAddr (c := ?_) | refine L.nilCheck (k := ?_) | refine L.lenR hG2.sl (c := ?_) | refine L.indexR hG2.sl hup (c := ?_) | refine L.loadU [_, _] (L2 := []) (i := A.length) (j := 0) hG2 rfl hup (by decide) hv0 (c := ?_))
        refine L.setU [_, _] (L2 := []) (i := A.length) (j := 0) hG2 rfl rfl hup (by decide) (c := fun hG' hv' => ?_)
        rw [lvl_set _ _ _ _ hAB] at hG'
        repeat' (first | refine C.region ?_ | refine L.nil ?_ | refine D.seq ?_ | refine L.move (k := ?_) | refine L.ar (c := ?_) | refine D.blkNormal ?_)
        refine D.then_ fun a1 w1 hs => ⟨(i + 1, sstep x o, c', osSet y (A.length * 2 + 0) (.int .i64 (capM (u + 1125899906842624)))), ⟨by omega, hx'.symm, hS', hc8', hrn, ?_⟩, by simp only; omega, ?_⟩
        · rw [hx2]; exact hG'
        · refine hs.lessD 1 rfl ?_
          rw [hx2]
          simp only [hv']
          exact (lk_cons rfl (lk_cons rfl (lk_cons rfl (lk_cons rfl (fun _ _ h => lk_nil h)))))
      | true =>
        have hcg : cm .gtr x.1 ((1125899906842624 : Int).tdiv t) = false := by simp [cm] at hgt ⊢; omega
        have hx2 : sstep x o = (capM (u + x.1 * t), A, B) := by
          unfold sstep; rw [if_neg (by rw [k16]; simp), if_pos k17, hla, hlb, hda, hdb, if_neg (by rw [hcg]; simp), capM_comm]
        have hle : x.1 ≤ (1125899906842624 : Int).tdiv t := by simpa [cm] using hgt
        have hmul : 0 ≤ x.1 * t ∧ x.1 * t ≤ 1125899906842624 := by
          rw [Int.tdiv_eq_ediv_of_nonneg (by omega)] at hle
          exact ⟨Int.mul_nonneg hs0.1 (by omega), (Int.le_ediv_iff_mul_le (by omega)).1 hle⟩
        have cm1 : ar .mul .i64 x.1 t = x.1 * t := wrap_big (by omega)
        have ca : ar .add .i64 u (x.1 * t) = u + x.1 * t := wrap_big (by omega)
        repeat' (first | refine C.seq ?_ | refine C.region ?_ | refine L.nil ?_ | refine D.seq ?_ | refine L.move (k := ?_) | refine L.assign (k := ?_) | refine L.cm (c := ?_) | refine L.ar (c := ?_) | refine L.fieldAddr (c := ?_) | refine L.load1 0 (c := ?_) | refine L.storeV 0 (c := ?_) | refine L.alloc (c := fun _ => ?_) | refine L.nilCheck (k := ?_) | refine C.yes (h1 := ?_) | refine C.no (h1 := ?_) | refine C.block ?_ | refine C.skip ?_ | exact D.endsQ | refine QL.fin ?_ | (refine QL.step (v := ?_) (by exact rfl) (by exact rfl) ?_ ?_; rotate_left) | refine L.indexR s2 hlt (c := ?_) | refine L.loadOA o2 (i := i * 8) (ho := rfl) (hi := hal) (hcs := ha) (c := ?_) | refine L.lenR hG.sl (c := ?_) | refine L.indexR hG.sl htop' (c := ?_) | refine L.loadU [_, _] (L2 := []) (i := A.length + 1) (j := 0) hG rfl htop' (by decide) hu0' (c := ?_) | refine L.loadU [_, _] (L2 := []) (i := A.length + 1) (j := 1) hG rfl htop' (by decide) hu1' (c := ?_) | refine L.ar (op := .quo) (ho := hquo) (hz := cq) (c := ?_) | refine C.quiet (h := ?_))
        refine L.cutU hG (k := A.length + 1) (by omega) ⟨_, _, rfl, rfl⟩ (c := fun _ => ?_)
        repeat' (first | refine L.minI (z := capM _) (hz := rfl) (c := ?_) | refine C.seq ?_ | refine C.region ?_ | refine L.nil ?_ | refine D.seq ?_ | refine L.move (k := ?_) | refine L.assign (k := ?_) | refine L.ar (c := ?_) | refine L.fieldAddr (c := ?_) | refine L.nilCheck (k := ?_) | refine L.lenR hG2.sl (c := ?_) | refine L.indexR hG2.sl hup (c := ?_) | refine L.loadU [_, _] (L2 := []) (i := A.length) (j := 0) hG2 rfl hup (by decide) hv0 (c := ?_))
        refine L.setU [_, _] (L2 := []) (i := A.length) (j := 0) hG2 rfl rfl hup (by decide) (c := fun hG' hv' => ?_)
        rw [lvl_set _ _ _ _ hAB] at hG'
        repeat' (first | refine C.region ?_ | refine L.nil ?_ | refine D.seq ?_ | refine L.move (k := ?_) | refine L.ar (c := ?_) | refine D.blkNormal ?_)
        refine D.then_ fun a1 w1 hs => ⟨(i + 1, sstep x o, c', osSet y (A.length * 2 + 0) (.int .i64 (capM (u + x.1 * t)))), ⟨by omega, hx'.symm, hS', hc8', hrn, ?_⟩, by simp only; omega, ?_⟩
        · rw [hx2]; exact hG'
        · refine hs.lessD 1 rfl ?_
          rw [hx2]
          simp only [hv']
          exact (lk_cons rfl (lk_cons rfl (lk_cons rfl (lk_cons rfl (fun _ _ h => lk_nil h)))))
    · have k17 : cm .eql o.k 17 = false := cm_no h17
      have ca : ar .add .i64 x.1 1 = x.1 + 1 := wrap_big (by omega)
      have hx2 : sstep x o = (capM (x.1 + 1), x.2.1, x.2.2) := by unfold sstep; rw [if_neg (by rw [k16]; simp), if_neg (by rw [k17]; simp)]
      repeat' (first | refine L.minI (z := capM _) (hz := rfl) (c := ?_) | refine C.seq ?_ | refine C.region ?_ | refine L.nil ?_ | refine D.seq ?_ | refine L.move (k := ?_) | refine L.assign (k := ?_) | refine L.cm (c := ?_) | refine L.ar (c := ?_) | refine L.fieldAddr (c := ?_) | refine L.load1 0 (c := ?_) | refine L.storeV 0 (c := ?_) | refine L.alloc (c := fun _ => ?_) | refine L.nilCheck (k := ?_) | refine C.yes (h1 := ?_) | refine C.no (h1 := ?_) | refine C.block ?_ | refine C.skip ?_ | refine L.indexR s2 hlt (c := ?_) | refine L.loadOA o2 (i := i * 8) (ho := rfl) (hi := hal) (hcs := ha) (c := ?_) | refine L.lenR hG.sl (c := ?_) | refine L.indexR hG.sl htop (c := ?_) | refine L.loadU [_, _] (L2 := []) (i := x.2.1.length) (j := 0) hG rfl htop (by decide) hu0 (c := ?_))
      refine L.setU [_, _] (L2 := []) (i := x.2.1.length) (j := 0) hG rfl rfl htop (by decide) (c := fun hG' hv' => ?_)
      rw [lvl_set _ _ _ _ hll] at hG'
      repeat' (first | refine C.region ?_ | refine L.nil ?_ | refine D.seq ?_ | refine L.move (k := ?_) | refine L.ar (c := ?_) | refine D.blkNormal ?_)
      refine D.then_ fun a1 w1 hs => ⟨(i + 1, sstep x o, c', osSet y (x.2.1.length * 2 + 0) (.int .i64 (capM (x.1 + 1)))), ⟨by omega, hx'.symm, hS', hc8', hrn, ?_⟩, by simp only; omega, ?_⟩
      · rw [hx2]; exact hG'
      · refine hs.lessD 1 rfl ?_
        rw [hx2]
        simp only [hv']
        exact (lk_cons rfl (lk_cons rfl (lk_cons rfl (lk_cons rfl (fun _ _ h => lk_nil h)))))
  · have c2 : cm .lss (i : Int) os.length = false := cm_lo' (by omega)
    have hil : i = os.length := by omega
    rw [List.take_of_length_le hge] at hx
    rw [List.drop_of_length_le hge] at hrn
    unfold rrun at hrn
    have hlp : c.loops = [] := by
      by_cases h : c.loops = []
      · exact h
      · simp only [if_neg h] at hrn; omega
    have hA : x.2.1 = [] := List.eq_nil_of_length_eq_zero (by rw [hl1, hlp]; rfl)
    have hz0 : (lvl x.1 x.2.1 x.2.2)[0 * 2 + 0]? = some (int x.1) := by rw [hA] at hu0; rw [hA]; exact hu0
    have h1p : 0 < x.2.1.length + 1 := by omega
    repeat' (first | refine C.seq ?_ | refine C.region ?_ | refine L.nil ?_ | refine D.seq ?_ | refine L.move (k := ?_) | refine L.assign (k := ?_) | refine L.cm (c := ?_) | refine L.fieldAddr (c := ?_) | refine C.no (h1 := ?_) | refine C.ret ?_ | refine C.exit ?_ | refine D.thenExit ?_ | refine D.blkExit ?_ | refine D.seqR (h := ?_) | refine L.indexR hG.sl h1p (hi := rfl) (c := ?_) | refine L.loadU [_] (L2 := []) (i := 0) (j := 0) hG rfl h1p (by decide) hz0 (c := ?_))
    (refine D.ret (vs := [_]) (RV.tmp rfl RV.nil) ?_; intro w' hw; exact Post.mk (is := []) hw List.nodup_nil rfl ⟨by unfold stepsR stepsM; rw [if_pos he, ← hx]; rfl, rfl⟩)
end Go.Proofs.Ytkjlgapkcdcmgaa
