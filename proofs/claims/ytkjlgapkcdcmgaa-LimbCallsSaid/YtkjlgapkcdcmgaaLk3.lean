/- keysmithref12.fields. -/
import Derived.Test.YtkjlgapkcdcmgaaLk2
set_option linter.unusedVariables false
set_option linter.unusedSimpArgs false
namespace Go.Proofs.Ytkjlgapkcdcmgaa
open Go Go.RowKit SL
attribute [local irreducible] SL.L SL.C SL.D SL.N SL.H SL.QL SL.QW SL.QP

abbrev mem (o : Lop) : Bool := cm .eql o.k 14 || cm .eql o.k 15
abbrev hasE (o : Lop) : Bool := (cm .eql o.k 10 || cm .eql o.k 11) || cm .eql o.k 12
abbrev rbad (regs : Int) (o : Lop) : Bool :=
  ((((!fieldM regs o.d (cm .neq o.k 15 && cm .neq o.k 17) || !fieldM regs o.e (hasE o)) || (!fieldM regs o.a ((cm .neq o.k 1 && cm .neq o.k 16) && cm .neq o.k 17) && !(mem o && cm .eql o.a (-1)))) ||
    !fieldM regs o.b (((cm .geq o.k 3 && cm .leq o.k 7) || (cm .geq o.k 10 && cm .leq o.k 13)) || cm .eql o.k 15)) || !fieldM regs o.c (cm .geq o.k 11 && cm .leq o.k 13)) || (hasE o && cm .eql o.d o.e)
def bAt (bs : List Bf) (i : Int) : Bf := (bs[i.toNat]?).getD ⟨0, 0, false⟩
def rfields (regs : Int) (bs : List Bf) (o : Lop) : Bool :=
  if cm .lss o.k 1 || cm .gtr o.k 17 then false
  else if rbad regs o then false
  else if mem o then
    (if (cm .lss o.buf 0 || cm .geq o.buf bs.length) || (cm .eql o.k 15 && cm .eql (bAt bs o.buf).kind 1) then false else cm .neq o.a (-1) || cm .lss o.imm (IntKind.u64.wrap (bAt bs o.buf).size))
  else if cm .neq o.buf 0 then false
  else if cm .eql o.k 1 then true
  else if cm .eql o.k 8 || cm .eql o.k 9 then cm .geq o.imm 1 && cm .leq o.imm 63
  else if cm .eql o.k 16 then cm .geq o.imm 1 && cm .leq o.imm 1048576
  else cm .eql o.imm 0
theorem b_at {bs : List Bf} {j : Nat} {b : Bf} (h : bs[j]? = some b) : (bs.flatMap encB)[j * 3 + 0]? = some (.int .i64 b.size) ∧ (bs.flatMap encB)[j * 3 + 1]? = some (.int .i64 b.kind) ∧ (bs.flatMap encB)[j * 3 + 2]? = some (.bool b.sec) :=
  ⟨flat_get encB_len bs j b h 0 (by decide), flat_get encB_len bs j b h 1 (by decide), flat_get encB_len bs j b h 2 (by decide)⟩
set_option maxRecDepth 100000 in
set_option maxHeartbeats 8000000 in
theorem fields_S (regs : Int) (vb vo : Value) (bs : List Bf) (o : Lop) : Ctr Try.prog 49 [progV regs vb vo, aggO o] [] (fun w => Rd w [] vb bs.length (bs.flatMap encB)) (is (.bool (rfields regs bs o)) []) := by
  refine Ctr.enter Try.func49 Try.ntmps49 rfl rfl (fun w hr => ?_)
  try simp only [List.append_eq, List.cons_append, List.nil_append]
  have s1 := hr.1
  rcases Int.lt_or_le o.buf 0 with hb | hb
  · have c1 : cm .lss o.buf 0 = true := cm_lo hb
    unfold aggO progV
    repeat' (first | refine C.seq ?_ | refine C.region ?_ | refine L.nil ?_ | refine D.seq ?_ | refine L.move (k := ?_) | refine L.assign (k := ?_) | refine L.cm (c := ?_) | refine L.fieldAddr (c := ?_) | refine L.load1 0 (c := ?_) | refine L.loadA 1 (c := ?_) | refine L.box (c := fun _ => ?_) | refine C.yes (h1 := ?_) | refine L.pickT (k := ?_) | refine L.pickF (k := ?_) | refine L.want (k := ?_) | refine L.pass (k := ?_) | refine L.not (c := ?_) | refine C.block ?_ | refine D.blkNormal ?_ | refine C.ret ?_ | refine D.thenRet ?_ | refine D.blkRet ?_ | refine C.skip ?_ | refine L.passU (k := ?_) | refine L.callQ (field_S _ _ _ _ _) (k := ?_) | refine L.lenR s1 (c := ?_) | exact D.endsG | (refine L.orB 2 (b2 := ?_) (h1 := fun hb => ?_) (h2 := fun hb => ?_) (k := ?_); rotate_left) | (refine L.andB 2 (b2 := ?_) (h1 := fun hb => ?_) (h2 := fun hb => ?_) (k := ?_); rotate_left) | (refine L.andB 3 (b2 := ?_) (h1 := fun hb => ?_) (h2 := fun hb => ?_) (k := ?_); rotate_left) | (refine L.andB 5 (b2 := ?_) (h1 := fun hb => ?_) (h2 := fun hb => ?_) (k := ?_); rotate_left) | (refine L.orB 6 (b2 := ?_) (h1 := fun hb => ?_) (h2 := fun hb => ?_) (k := ?_); rotate_left) | (refine L.andB 7 (b2 := ?_) (h1 := fun hb => ?_) (h2 := fun hb => ?_) (k := ?_); rotate_left) | (refine L.orB 8 (b2 := ?_) (h1 := fun hb => ?_) (h2 := fun hb => ?_) (k := ?_); rotate_left) | (refine L.orB 15 (b2 := ?_) (h1 := fun hb => ?_) (h2 := fun hb => ?_) (k := ?_); rotate_left) | (refine C.cond (hv := by exact rfl) (h1 := fun hc => ?_) (h2 := fun hc => ?_)))
    all_goals (refine D.ret (vs := [_]) (RV.tmp rfl RV.nil) ?_; intro w' hw; refine Post.mkD 2 hw rfl ⟨congrArg (fun b => shut [Value.bool b]) (Eq.symm ?_), rfl⟩; unfold rfields; simp only [c1, Bool.true_or])
    all_goals (repeat (first | (refine (if_pos ?_).trans ?_; · first | with_reducible assumption | with_reducible rfl) | (refine (if_neg ?_).trans ?_; · (refine ne_true_of_eq_false ?_; with_reducible assumption))))
    all_goals rfl
  rcases Int.lt_or_le o.buf bs.length with hb2 | hb2
  · have c1 : cm .lss o.buf 0 = false := cm_lo' hb
    have c2 : cm .geq o.buf bs.length = false := cm_ge' hb2
    obtain ⟨j, hj⟩ : ∃ j : Nat, o.buf = j := ⟨o.buf.toNat, by omega⟩
    have hlt : j < bs.length := by omega
    obtain ⟨b, hb⟩ : ∃ b, bs[j]? = some b := ⟨_, List.getElem?_eq_getElem hlt⟩
    have e1 : bAt bs o.buf = b := by unfold bAt; rw [show o.buf.toNat = j by omega, hb]; rfl
    obtain ⟨k0, k1, k2⟩ := b_at hb
    have o1 := hr.2 (by omega)
    unfold aggO progV
    by_cases ha : o.a = -1
    · have c3 : cm .neq o.a (-1) = false := cm_ne' ha
      repeat' (first | refine C.seq ?_ | refine C.region ?_ | refine L.nil ?_ | refine D.seq ?_ | refine L.move (k := ?_) | refine L.assign (k := ?_) | refine L.cm (c := ?_) | refine L.fieldAddr (c := ?_) | refine L.load1 0 (c := ?_) | refine L.load1 1 (c := ?_) | refine L.loadA 1 (c := ?_) | refine L.box (c := fun _ => ?_) | refine L.pickT (k := ?_) | refine L.pickF (k := ?_) | refine L.want (k := ?_) | refine L.pass (k := ?_) | refine L.not (c := ?_) | refine C.block ?_ | refine D.blkNormal ?_ | refine C.ret ?_ | refine D.thenRet ?_ | refine D.blkRet ?_ | refine C.skip ?_ | refine L.convI (c := ?_) | refine L.passU (k := ?_) | exact D.endsQ | refine QL.fin ?_ | refine C.quiet (h := ?_) | (refine QL.step (v := ?_) (by exact rfl) (by exact rfl) ?_ ?_; rotate_left) | refine L.callQ (field_S _ _ _ _ _) (k := ?_) | refine L.lenR s1 (c := ?_) | refine L.indexR s1 hlt (hi := hj) (c := ?_) | refine L.loadF o1 k0 (c := ?_) | refine L.loadF o1 k1 (c := ?_) | exact D.endsG | (refine L.orB 2 (b2 := ?_) (h1 := fun hb => ?_) (h2 := fun hb => ?_) (k := ?_); rotate_left) | (refine L.andB 2 (b2 := ?_) (h1 := fun hb => ?_) (h2 := fun hb => ?_) (k := ?_); rotate_left) | (refine L.andB 3 (b2 := ?_) (h1 := fun hb => ?_) (h2 := fun hb => ?_) (k := ?_); rotate_left) | (refine L.andB 5 (b2 := ?_) (h1 := fun hb => ?_) (h2 := fun hb => ?_) (k := ?_); rotate_left) | (refine L.orB 6 (b2 := ?_) (h1 := fun hb => ?_) (h2 := fun hb => ?_) (k := ?_); rotate_left) | (refine L.andB 7 (b2 := ?_) (h1 := fun hb => ?_) (h2 := fun hb => ?_) (k := ?_); rotate_left) | (refine L.orB 8 (b2 := ?_) (h1 := fun hb => ?_) (h2 := fun hb => ?_) (k := ?_); rotate_left) | (refine L.andB 8 (b2 := ?_) (h1 := fun hb => ?_) (h2 := fun hb => ?_) (k := ?_); rotate_left) | (refine L.orB 15 (b2 := ?_) (h1 := fun hb => ?_) (h2 := fun hb => ?_) (k := ?_); rotate_left) | (refine C.cond (hv := by exact rfl) (h1 := fun hc => ?_) (h2 := fun hc => ?_)))
      all_goals (refine D.ret (vs := [_]) (RV.tmp rfl RV.nil) ?_; intro w' hw; refine Post.mkD 2 hw rfl ⟨congrArg (fun b => shut [Value.bool b]) (Eq.symm ?_), rfl⟩; unfold rfields; simp only [c1, c2, e1, c3, Bool.false_or])
      all_goals (repeat (first | (refine (if_pos ?_).trans ?_; · first | with_reducible assumption | with_reducible rfl) | (refine (if_neg ?_).trans ?_; · (refine ne_true_of_eq_false ?_; with_reducible assumption))))
      all_goals rfl
    · have c3 : cm .neq o.a (-1) = true := cm_ne ha
      repeat' (first | refine C.seq ?_ | refine C.region ?_ | refine L.nil ?_ | refine D.seq ?_ | refine L.move (k := ?_) | refine L.assign (k := ?_) | refine L.cm (c := ?_) | refine L.fieldAddr (c := ?_) | refine L.load1 0 (c := ?_) | refine L.load1 1 (c := ?_) | refine L.loadA 1 (c := ?_) | refine L.box (c := fun _ => ?_) | refine L.pickT (k := ?_) | refine L.pickF (k := ?_) | refine L.want (k := ?_) | refine L.pass (k := ?_) | refine L.not (c := ?_) | refine C.block ?_ | refine D.blkNormal ?_ | refine C.ret ?_ | refine D.thenRet ?_ | refine D.blkRet ?_ | refine C.skip ?_ | refine L.passU (k := ?_) | exact D.endsQ | refine QL.fin ?_ | refine C.quiet (h := ?_) | (refine QL.step (v := ?_) (by exact rfl) (by exact rfl) ?_ ?_; rotate_left) | refine L.callQ (field_S _ _ _ _ _) (k := ?_) | refine L.lenR s1 (c := ?_) | refine L.indexR s1 hlt (hi := hj) (c := ?_) | refine L.loadF o1 k0 (c := ?_) | refine L.loadF o1 k1 (c := ?_) | exact D.endsG | (refine L.orB 2 (b2 := ?_) (h1 := fun hb => ?_) (h2 := fun hb => ?_) (k := ?_); rotate_left) | (refine L.andB 2 (b2 := ?_) (h1 := fun hb => ?_) (h2 := fun hb => ?_) (k := ?_); rotate_left) | (refine L.andB 3 (b2 := ?_) (h1 := fun hb => ?_) (h2 := fun hb => ?_) (k := ?_); rotate_left) | (refine L.andB 5 (b2 := ?_) (h1 := fun hb => ?_) (h2 := fun hb => ?_) (k := ?_); rotate_left) | (refine L.orB 6 (b2 := ?_) (h1 := fun hb => ?_) (h2 := fun hb => ?_) (k := ?_); rotate_left) | (refine L.andB 7 (b2 := ?_) (h1 := fun hb => ?_) (h2 := fun hb => ?_) (k := ?_); rotate_left) | (refine L.orB 8 (b2 := ?_) (h1 := fun hb => ?_) (h2 := fun hb => ?_) (k := ?_); rotate_left) | (refine L.andB 8 (b2 := ?_) (h1 := fun hb => ?_) (h2 := fun hb => ?_) (k := ?_); rotate_left) | (refine L.orB 15 (b2 := ?_) (h1 := fun hb => ?_) (h2 := fun hb => ?_) (k := ?_); rotate_left) | (refine C.cond (hv := by exact rfl) (h1 := fun hc => ?_) (h2 := fun hc => ?_)))
      all_goals (refine D.ret (vs := [_]) (RV.tmp rfl RV.nil) ?_; intro w' hw; refine Post.mkD 2 hw rfl ⟨congrArg (fun b => shut [Value.bool b]) (Eq.symm ?_), rfl⟩; unfold rfields; simp only [c1, c2, e1, c3, Bool.false_or, Bool.true_or])
      all_goals (repeat (first | (refine (if_pos ?_).trans ?_; · first | with_reducible assumption | with_reducible rfl) | (refine (if_neg ?_).trans ?_; · (refine ne_true_of_eq_false ?_; with_reducible assumption))))
      all_goals rfl
  · have c1 : cm .lss o.buf 0 = false := cm_lo' hb
    have c2 : cm .geq o.buf bs.length = true := cm_ge hb2
    unfold aggO progV
    repeat' (first | refine C.seq ?_ | refine C.region ?_ | refine L.nil ?_ | refine D.seq ?_ | refine L.move (k := ?_) | refine L.assign (k := ?_) | refine L.cm (c := ?_) | refine L.fieldAddr (c := ?_) | refine L.load1 0 (c := ?_) | refine L.load1 1 (c := ?_) | refine L.loadA 1 (c := ?_) | refine L.box (c := fun _ => ?_) | refine C.yes (h1 := ?_) | refine L.pickT (k := ?_) | refine L.pickF (k := ?_) | refine L.want (k := ?_) | refine L.pass (k := ?_) | refine L.not (c := ?_) | refine C.block ?_ | refine D.blkNormal ?_ | refine C.ret ?_ | refine D.thenRet ?_ | refine D.blkRet ?_ | refine C.skip ?_ | refine L.passU (k := ?_) | refine L.callQ (field_S _ _ _ _ _) (k := ?_) | refine L.lenR s1 (c := ?_) | exact D.endsG | (refine L.orB 2 (b2 := ?_) (h1 := fun hb => ?_) (h2 := fun hb => ?_) (k := ?_); rotate_left) | (refine L.andB 2 (b2 := ?_) (h1 := fun hb => ?_) (h2 := fun hb => ?_) (k := ?_); rotate_left) | (refine L.andB 3 (b2 := ?_) (h1 := fun hb => ?_) (h2 := fun hb => ?_) (k := ?_); rotate_left) | (refine L.andB 5 (b2 := ?_) (h1 := fun hb => ?_) (h2 := fun hb => ?_) (k := ?_); rotate_left) | (refine L.orB 6 (b2 := ?_) (h1 := fun hb => ?_) (h2 := fun hb => ?_) (k := ?_); rotate_left) | (refine L.andB 7 (b2 := ?_) (h1 := fun hb => ?_) (h2 := fun hb => ?_) (k := ?_); rotate_left) | (refine L.orB 8 (b2 := ?_) (h1 := fun hb => ?_) (h2 := fun hb => ?_) (k := ?_); rotate_left) | (refine L.orB 15 (b2 := ?_) (h1 := fun hb => ?_) (h2 := fun hb => ?_) (k := ?_); rotate_left) | (refine C.cond (hv := by exact rfl) (h1 := fun hc => ?_) (h2 := fun hc => ?_)))
    all_goals (refine D.ret (vs := [_]) (RV.tmp rfl RV.nil) ?_; intro w' hw; refine Post.mkD 2 hw rfl ⟨congrArg (fun b => shut [Value.bool b]) (Eq.symm ?_), rfl⟩; unfold rfields; simp only [c1, c2, Bool.false_or, Bool.true_or])
    all_goals (repeat (first | (refine (if_pos ?_).trans ?_; · first | with_reducible assumption | with_reducible rfl) | (refine (if_neg ?_).trans ?_; · (refine ne_true_of_eq_false ?_; with_reducible assumption))))
    all_goals rfl
end Go.Proofs.Ytkjlgapkcdcmgaa
