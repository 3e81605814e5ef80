/- limb.has, number. -/
import Derived.Test.YtkjlgapkcdcmgaaLk3
import Derived.Test.YtkjlgapkcdcmgaaSepGZ
set_option linter.unusedVariables false
set_option linter.unusedSimpArgs false
namespace Go.Proofs.Ytkjlgapkcdcmgaa
open Go Go.RowKit SL
attribute [local irreducible] SL.L SL.C SL.D SL.N SL.H SL.QL SL.QW SL.QP

def hasM (k : Int) : Int × Bool := if cm .eql k 1 then (1, true) else if cm .eql k 16 then (1, true) else if cm .eql k 2 then (5, true) else if cm .eql k 8 then (5, true) else if cm .eql k 9 then (5, true) else if cm .eql k 3 then (13, true) else if cm .eql k 4 then (13, true) else if cm .eql k 5 then (13, true) else if cm .eql k 6 then (13, true) else if cm .eql k 7 then (13, true) else if cm .eql k 10 then (15, true) else if cm .eql k 11 then (31, true) else if cm .eql k 12 then (31, true) else if cm .eql k 13 then (29, true) else if cm .eql k 14 then (97, true) else if cm .eql k 15 then (104, true) else if cm .eql k 17 then (0, true) else (0, false)
def is2 (a b : Value) : Value → Hp → Prop := fun u B => u = shut [a, b] ∧ B = []
set_option maxHeartbeats 4000000 in
theorem has_S (k : Int) : Ctr Try.prog 106 [.int .i64 k] [] tt (is2 (.int .i64 (hasM k).1) (.bool (hasM k).2)) := by
  refine Ctr.enter Try.func106 Try.ntmps106 rfl rfl (fun w _ => ?_)
  repeat' (first | refine C.seq ?_ | refine C.region ?_ | refine L.nil ?_ | refine D.seq ?_ | refine L.move (k := ?_) | refine L.assign (k := ?_) | refine L.cm (c := ?_) | refine C.yes (h1 := ?_) | refine C.block ?_ | refine D.blkNormal ?_ | refine C.ret ?_ | refine D.thenRet ?_ | refine D.blkRet ?_ | refine C.skip ?_ | fail | refine C.yesH (h1 := ?_) | refine C.noH (h1 := ?_) | (refine C.condE (h1 := fun hc => ?_) (h2 := fun hc => ?_)))
  all_goals (refine D.ret (vs := [_, _]) (RV.tmp rfl (RV.tmp rfl RV.nil)) ?_; intro w' hw; refine Post.mkD 0 hw rfl ⟨congrArg (fun p : Int × Bool => shut [.int .i64 p.1, .bool p.2]) (a₁ := (_, _)) (Eq.symm ?_), rfl⟩; unfold hasM)
  all_goals (repeat (first | (refine (if_pos ?_).trans ?_; · first | with_reducible assumption | with_reducible rfl) | (refine (if_neg ?_).trans ?_; · (refine ne_true_of_eq_false ?_; with_reducible assumption))))
  all_goals rfl
def numM (bs : List Bf) (o : Lop) : Bool :=
  if cm .eql o.k 1 then true
  else if cm .eql o.k 8 then cm .geq o.imm 1 && cm .leq o.imm 63
  else if cm .eql o.k 9 then cm .geq o.imm 1 && cm .leq o.imm 63
  else if cm .eql o.k 16 then cm .geq o.imm 1 && cm .leq o.imm 1048576
  else if cm .eql o.k 14 then cm .neq o.a (-1) || cm .lss o.imm (IntKind.u64.wrap (bAt bs o.buf).size)
  else if cm .eql o.k 15 then cm .neq o.a (-1) || cm .lss o.imm (IntKind.u64.wrap (bAt bs o.buf).size)
  else cm .eql o.imm 0
set_option maxRecDepth 100000 in
set_option maxHeartbeats 4000000 in
theorem number_S (regs : Int) (vb vo : Value) (bs : List Bf) (o : Lop) (hm : mem o = true → 0 ≤ o.buf ∧ o.buf < bs.length) : Ctr Try.prog 107 [progV regs vb vo, aggO o] [] (fun w => Rd w [] vb bs.length (bs.flatMap encB)) (is (.bool (numM bs o)) []) := by
  refine Ctr.enter Try.func107 Try.ntmps107 rfl rfl (fun w hr => ?_)
  have s1 := hr.1
  by_cases hmm : mem o = true
  · obtain ⟨hb1, hb2⟩ := hm hmm
    obtain ⟨j, hj⟩ : ∃ j : Nat, o.buf = j := ⟨o.buf.toNat, by omega⟩
    have hlt : j < bs.length := by omega
    obtain ⟨b, hb⟩ : ∃ b, bs[j]? = some b := ⟨_, List.getElem?_eq_getElem hlt⟩
    have e1 : bAt bs o.buf = b := by unfold bAt; rw [show o.buf.toNat = j by omega, hb]; rfl
    obtain ⟨k0, k1, k2⟩ := b_at hb
    have o1 := hr.2 (by omega)
    unfold aggO progV
    by_cases ha : o.a = -1
    · have c3 : cm .neq o.a (-1) = false := cm_ne' ha
      repeat' (first | refine C.seq ?_ | refine C.region ?_ | refine L.nil ?_ | refine D.seq ?_ | refine L.move (k := ?_) | refine L.assign (k := ?_) | refine L.cm (c := ?_) | refine L.fieldAddr (c := ?_) | refine L.load1 0 (c := ?_) | refine L.load1 1 (c := ?_) | refine L.box (c := fun _ => ?_) | refine C.yes (h1 := ?_) | refine L.pickT (k := ?_) | refine L.pickF (k := ?_) | refine L.want (k := ?_) | refine L.pass (k := ?_) | refine C.block ?_ | refine D.blkNormal ?_ | refine C.ret ?_ | refine D.thenRet ?_ | refine D.blkRet ?_ | refine C.skip ?_ | refine L.convI (c := ?_) | exact D.endsQ | refine QL.fin ?_ | refine C.quiet (h := ?_) | (refine QL.step (v := ?_) (by exact rfl) (by exact rfl) ?_ ?_; rotate_left) | refine L.lenR s1 (c := ?_) | refine L.indexR s1 hlt (hi := hj) (c := ?_) | refine L.loadF o1 k0 (c := ?_) | refine L.loadF o1 k1 (c := ?_) | exact D.endsG | (refine L.andB 3 (b2 := ?_) (h1 := fun hb => ?_) (h2 := fun hb => ?_) (k := ?_); rotate_left) | refine C.yesH (h1 := ?_) | refine C.noH (h1 := ?_) | (refine C.condE (h1 := fun hc => ?_) (h2 := fun hc => ?_)))
      all_goals (refine D.ret (vs := [_]) (RV.tmp rfl RV.nil) ?_; intro w' hw; refine Post.mkD 2 hw rfl ⟨congrArg (fun b => shut [Value.bool b]) (Eq.symm ?_), rfl⟩; unfold numM; simp only [e1, c3, Bool.false_or])
      all_goals (repeat (first | (refine (if_pos ?_).trans ?_; · first | with_reducible assumption | with_reducible rfl) | (refine (if_neg ?_).trans ?_; · (refine ne_true_of_eq_false ?_; with_reducible assumption))))
      all_goals rfl
    · have c3 : cm .neq o.a (-1) = true := cm_ne ha
      repeat' (first | refine C.seq ?_ | refine C.region ?_ | refine L.nil ?_ | refine D.seq ?_ | refine L.move (k := ?_) | refine L.assign (k := ?_) | refine L.cm (c := ?_) | refine L.fieldAddr (c := ?_) | refine L.load1 0 (c := ?_) | refine L.box (c := fun _ => ?_) | refine C.yes (h1 := ?_) | refine L.pickT (k := ?_) | refine L.pickF (k := ?_) | refine L.want (k := ?_) | refine L.pass (k := ?_) | refine C.block ?_ | refine D.blkNormal ?_ | refine C.ret ?_ | refine D.thenRet ?_ | refine D.blkRet ?_ | refine C.skip ?_ | exact D.endsQ | refine QL.fin ?_ | refine C.quiet (h := ?_) | (refine QL.step (v := ?_) (by exact rfl) (by exact rfl) ?_ ?_; rotate_left) | refine L.lenR s1 (c := ?_) | refine L.indexR s1 hlt (hi := hj) (c := ?_) | refine L.loadF o1 k0 (c := ?_) | refine L.loadF o1 k1 (c := ?_) | exact D.endsG | (refine L.andB 3 (b2 := ?_) (h1 := fun hb => ?_) (h2 := fun hb => ?_) (k := ?_); rotate_left) | refine C.yesH (h1 := ?_) | refine C.noH (h1 := ?_) | (refine C.condE (h1 := fun hc => ?_) (h2 := fun hc => ?_)))
      all_goals (refine D.ret (vs := [_]) (RV.tmp rfl RV.nil) ?_; intro w' hw; refine Post.mkD 2 hw rfl ⟨congrArg (fun b => shut [Value.bool b]) (Eq.symm ?_), rfl⟩; unfold numM; simp only [e1, c3, Bool.true_or])
      all_goals (repeat (first | (refine (if_pos ?_).trans ?_; · first | with_reducible assumption | with_reducible rfl) | (refine (if_neg ?_).trans ?_; · (refine ne_true_of_eq_false ?_; with_reducible assumption))))
      all_goals rfl
  · have hm2 : cm .eql o.k 14 = false ∧ cm .eql o.k 15 = false := by
      rw [Bool.not_eq_true] at hmm
      exact Bool.or_eq_false_iff.1 hmm
    obtain ⟨c4, c5⟩ := hm2
    unfold aggO progV
    repeat' (first | refine C.seq ?_ | refine C.region ?_ | refine L.nil ?_ | refine D.seq ?_ | refine L.move (k := ?_) | refine L.assign (k := ?_) | refine L.cm (c := ?_) | refine L.fieldAddr (c := ?_) | refine L.load1 0 (c := ?_) | refine L.box (c := fun _ => ?_) | refine C.yes (h1 := ?_) | refine C.no (h1 := ?_) | refine L.pickT (k := ?_) | refine L.pickF (k := ?_) | refine L.want (k := ?_) | refine L.pass (k := ?_) | refine C.block ?_ | refine D.blkNormal ?_ | refine C.ret ?_ | refine D.thenRet ?_ | refine D.blkRet ?_ | refine C.skip ?_ | exact D.endsG | (refine L.andB 3 (b2 := ?_) (h1 := fun hb => ?_) (h2 := fun hb => ?_) (k := ?_); rotate_left) | refine C.yesH (h1 := ?_) | refine C.noH (h1 := ?_) | (refine C.condE (h1 := fun hc => ?_) (h2 := fun hc => ?_)))
    all_goals (refine D.ret (vs := [_]) (RV.tmp rfl RV.nil) ?_; intro w' hw; refine Post.mkD 2 hw rfl ⟨congrArg (fun b => shut [Value.bool b]) (Eq.symm ?_), rfl⟩; unfold numM)
    all_goals (repeat (first | (refine (if_pos ?_).trans ?_; · first | with_reducible assumption | with_reducible rfl) | (refine (if_neg ?_).trans ?_; · (refine ne_true_of_eq_false ?_; with_reducible assumption))))
    all_goals rfl
end Go.Proofs.Ytkjlgapkcdcmgaa
