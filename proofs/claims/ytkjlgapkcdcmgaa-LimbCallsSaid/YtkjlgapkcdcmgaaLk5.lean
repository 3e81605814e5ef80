/- limb.fields. -/
import Derived.Test.YtkjlgapkcdcmgaaLk4
set_option linter.unusedVariables false
set_option linter.unusedSimpArgs false
namespace Go.Proofs.Ytkjlgapkcdcmgaa
open Go Go.RowKit SL
attribute [local irreducible] SL.L SL.C SL.D SL.N SL.H SL.QL SL.QW SL.QP

abbrev an (h w : Int) : Int := ar .and .i64 h w
abbrev noneM (h wt r : Int) : Bool := cm .eql (an h wt) 0 || (cm .eql (an h wt) 64 && cm .eql r (-1))
abbrev badF (regs h wt r : Int) : Bool := (noneM h wt r && cm .neq r (-1)) || (!noneM h wt r && (cm .lss r 0 || cm .geq r regs))
def fl (o : Lop) : List (Int × Int) := [(1, o.d), (2, o.e), (68, o.a), (8, o.b), (16, o.c)]
def encF (p : Int × Int) : List Value := [int p.1, int p.2]
theorem encF_len (p : Int × Int) : (encF p).length = 2 := rfl
def lfields (regs : Int) (bs : List Bf) (o : Lop) : Bool :=
  if (hasM o.k).2 then
    (if (fl o).any (fun p => badF regs (hasM o.k).1 p.1 p.2) then false
    else if (cm .neq (an (hasM o.k).1 2) 0 && cm .eql o.d o.e) || (cm .eql (an (hasM o.k).1 32) 0 && cm .neq o.buf 0) then false
    else if cm .neq (an (hasM o.k).1 32) 0 && ((cm .lss o.buf 0 || cm .geq o.buf bs.length) || (cm .eql o.k 15 && cm .eql (bAt bs o.buf).kind 1)) then false
    else numM bs o)
  else false
theorem has_mem {k : Int} (h : (cm .eql k 14 || cm .eql k 15) = true) : an (hasM k).1 32 = 32 := by
  have e : k = 14 ∨ k = 15 := by
    rcases Bool.or_eq_true_iff.1 h with h | h
    · exact .inl (beq_iff_eq.1 h)
    · exact .inr (beq_iff_eq.1 h)
  rcases e with rfl | rfl <;> rfl
theorem ite_or {c : Prop} [Decidable c] {p q : Int × Bool} {S : Int → Prop} (h1 : S p.1) (h2 : S q.1) : S (if c then p else q).1 := by split <;> assumption
theorem has_not {k : Int} (h : (cm .eql k 14 || cm .eql k 15) = false) : an (hasM k).1 32 = 0 := by
  obtain ⟨h1, h2⟩ := Bool.or_eq_false_iff.1 h
  unfold hasM
  rw [h1, h2]
  simp only [Bool.false_eq_true, if_false]
  iterate 15 (refine ite_or (S := fun x => an x 32 = 0) (by kernel_rfl) ?_)
  kernel_rfl
set_option maxRecDepth 100000 in
set_option maxHeartbeats 8000000 in
theorem lfields_S (regs : Int) (vb vo : Value) (bs : List Bf) (o : Lop) : Ctr Try.prog 93 [progV regs vb vo, aggO o] [] (fun w => Rd w [] vb bs.length (bs.flatMap encB)) (is (.bool (lfields regs bs o)) []) := by
  refine Ctr.enter Try.func93 Try.ntmps93 rfl rfl (fun w hr => ?_)
  have s1 := hr.1
  have hsp := has_S o.k
  unfold lfields
  obtain ⟨h, ok, hH⟩ : ∃ h ok, hasM o.k = (h, ok) := ⟨_, _, rfl⟩
  rw [hH] at hsp ⊢
  simp only at hsp ⊢
  unfold aggO progV
  cases ok with
  | false =>
    repeat' (first | refine C.seq ?_ | refine C.region ?_ | refine L.nil ?_ | refine D.seq ?_ | refine L.move (k := ?_) | refine L.assign (k := ?_) | refine L.fieldAddr (c := ?_) | refine L.load1 0 (c := ?_) | refine L.extract (c := ?_) | refine L.box (c := fun _ => ?_) | refine C.yes (h1 := ?_) | refine L.not (c := ?_) | refine C.ret ?_ | refine D.thenRet ?_ | (refine L.callP [] hsp (k := ?_); rintro u B ⟨rfl, rfl⟩) | fail | refine C.yesH (h1 := ?_) | refine C.noH (h1 := ?_) | (refine C.condE (h1 := fun hc => ?_) (h2 := fun hc => ?_)))
    (refine D.ret (vs := [_]) (RV.tmp rfl RV.nil) ?_; intro w' hw; exact Post.mkD 2 hw rfl ⟨rfl, rfl⟩)
  | true =>
    simp only [if_true]
    repeat (first | refine C.seq ?_ | refine C.region ?_ | refine L.nil ?_ | refine D.seq ?_ | refine L.move (k := ?_) | refine L.assign (k := ?_) | refine L.fieldAddr (c := ?_) | refine L.load1 0 (c := ?_) | refine L.extract (c := ?_) | refine L.build (c := ?_) | refine L.box (c := fun _ => ?_) | refine C.no (h1 := ?_) | refine L.not (c := ?_) | refine C.block ?_ | refine C.skip ?_ | refine L.buildA (c := ?_) | (refine L.callP [] hsp (k := ?_); rintro u B ⟨rfl, rfl⟩))
    rename_i b1 b2
    refine C.loop (α := Nat) (fun i => i ≤ 5 ∧ ((fl o).take i).any (fun p => badF regs h p.1 p.2) = false)
      (fun i => [(2, .pointer (some ⟨b1, 0, none⟩)), (3, .pointer (some ⟨b2, 0, none⟩)), (5, .int .i64 h), (33, .agg ((fl o).flatMap encF).toArray), (34, .int .i64 i)])
      (fun _ => [(b2, ob [.int .i64 o.k, .int .i64 o.d, .int .i64 o.e, .int .i64 o.a, .int .i64 o.b, .int .i64 o.c, .int .i64 o.buf, .int .u64 o.imm] 39), (b1, ob [.int .i64 regs, vb, vo] 25)]) (fun i => 5 - i) 0
      (fun a w hs => hs.lessE rfl (lk_cons rfl (lk_cons rfl (lk_cons rfl (lk_cons rfl (lk_cons rfl (fun _ _ h => lk_nil h))))))) ⟨Nat.zero_le _, rfl⟩ ?_
    rintro i ⟨hi, hg⟩
    rcases Nat.lt_or_ge i 5 with hlt | hge
    · have c1 : cm .lss (i : Int) 5 = true := cm_lo (by omega)
      obtain ⟨p, hp⟩ : ∃ p, (fl o)[i]? = some p := ⟨_, List.getElem?_eq_getElem (show i < (fl o).length from hlt)⟩
      obtain ⟨wt, r⟩ := p
      have k1 : (((fl o).flatMap encF).drop (i * 2)).take 2 = [int wt, int r] := (flat_at encF_len hp).1
      have c2 : ar .add .i64 (i : Int) 1 = ((i + 1 : Nat) : Int) := wrap_nat (by omega)
      have tk : (fl o).take (i + 1) = (fl o).take i ++ [(wt, r)] := by rw [List.take_add_one, hp]; rfl
      repeat' (first | refine C.seq ?_ | refine C.region ?_ | refine L.nil ?_ | refine D.seq ?_ | refine L.move (k := ?_) | refine L.assign (k := ?_) | refine L.cm (c := ?_) | refine L.ar (c := ?_) | refine L.fieldAddr (c := ?_) | refine L.load1 0 (c := ?_) | refine L.load1 2 (c := ?_) | refine L.storeV 0 (c := ?_) | refine L.alloc (c := fun _ => ?_) | refine C.yes (h1 := ?_) | refine L.pickT (k := ?_) | refine L.pickF (k := ?_) | refine L.want (k := ?_) | refine L.pass (k := ?_) | refine L.not (c := ?_) | refine C.block ?_ | refine D.blkNormal ?_ | refine C.ret ?_ | refine D.thenRet ?_ | refine D.blkRet ?_ | refine C.skip ?_ | refine L.passU (k := ?_) | refine L.indexG rfl hlt k1 (c := ?_) | exact D.endsG | (refine L.andB 3 (b2 := ?_) (h1 := fun hb => ?_) (h2 := fun hb => ?_) (k := ?_); rotate_left) | (refine L.orB 5 (b2 := ?_) (h1 := fun hb => ?_) (h2 := fun hb => ?_) (k := ?_); rotate_left) | (refine L.orB 10 (b2 := ?_) (h1 := fun hb => ?_) (h2 := fun hb => ?_) (k := ?_); rotate_left) | (refine L.andB 10 (b2 := ?_) (h1 := fun hb => ?_) (h2 := fun hb => ?_) (k := ?_); rotate_left) | (refine L.orB 14 (b2 := ?_) (h1 := fun hb => ?_) (h2 := fun hb => ?_) (k := ?_); rotate_left) | refine C.yesH (h1 := ?_) | refine C.noH (h1 := ?_) | (refine C.condE (h1 := fun hc => ?_) (h2 := fun hc => ?_)))
      · have hb : ((fl o).any fun p => badF regs h p.1 p.2) = true := List.any_eq_true.2 ⟨(wt, r), List.mem_of_getElem? hp, by assumption⟩
        rw [if_pos hb]
        (refine D.ret (vs := [_]) (RV.tmp rfl RV.nil) ?_; intro w' hw; exact Post.mkD 3 hw rfl ⟨rfl, rfl⟩)
      · refine D.then_ fun a1 w1 hs => ⟨i + 1, ⟨by omega, ?_⟩, by omega, hs.lessD 1 rfl (lk_cons rfl (lk_cons rfl (lk_cons rfl (lk_cons rfl (lk_cons rfl (fun _ _ h => lk_nil h))))))⟩
        rw [tk, List.any_append, hg, Bool.false_or, List.any_cons, List.any_nil, Bool.or_false]
        assumption
    · obtain rfl : i = 5 := by omega
      have c1 : cm .lss ((5 : Nat) : Int) 5 = false := cm_lo' (by omega)
      rw [show (fl o).take 5 = fl o from rfl] at hg
      rw [if_neg (ne_true_of_eq_false hg)]
      clear hg
      cases hm : mem o with
      | false =>
        have hn : an h 32 = 0 := by have := has_not hm; rw [hH] at this; exact this
        have e1 : ar .and .i64 h 32 = 0 := hn
        have hs2 := number_S regs vb vo bs o (fun e => by rw [hm] at e; cases e)
        rw [hn]
        repeat' (first | refine C.seq ?_ | refine C.region ?_ | refine L.nil ?_ | refine D.seq ?_ | refine L.move (k := ?_) | refine L.assign (k := ?_) | refine L.cm (c := ?_) | refine L.ar (c := ?_) | refine L.fieldAddr (c := ?_) | refine L.load1 0 (c := ?_) | refine L.loadA 0 (c := ?_) | refine L.loadA 1 (c := ?_) | refine C.no (h1 := ?_) | refine L.pickT (k := ?_) | refine L.pickF (k := ?_) | refine L.want (k := ?_) | refine L.pass (k := ?_) | refine C.ret ?_ | refine D.thenRet ?_ | refine C.exit ?_ | refine D.thenExit ?_ | refine D.blkExit ?_ | refine C.skip ?_ | refine L.passU (k := ?_) | refine L.lenR s1 (c := ?_) | refine L.callQ hs2 (hpre := fun w' hw => hr.at hw) (k := ?_) | exact D.endsG | (refine L.andB 5 (b2 := ?_) (h1 := fun hb => ?_) (h2 := fun hb => ?_) (k := ?_); rotate_left) | (refine L.orB 8 (b2 := ?_) (h1 := fun hb => ?_) (h2 := fun hb => ?_) (k := ?_); rotate_left) | refine C.yesH (h1 := ?_) | refine C.noH (h1 := ?_) | (refine C.condE (h1 := fun hc => ?_) (h2 := fun hc => ?_)))
        all_goals (refine D.ret (vs := [_]) (RV.tmp rfl RV.nil) ?_; intro w' hw; refine Post.mkD 2 hw rfl ⟨congrArg (fun b => shut [Value.bool b]) (Eq.symm ?_), rfl⟩; simp only [show cm .eql 0 0 = true from rfl, show cm .neq 0 0 = false from rfl, Bool.true_and, Bool.false_and])
        all_goals (repeat (first | (refine (if_pos ?_).trans ?_; · first | with_reducible assumption | rfl) | (refine (if_neg ?_).trans ?_; · (refine ne_true_of_eq_false ?_; first | with_reducible assumption | rfl))))
        all_goals rfl
      | true =>
        have hn : an h 32 = 32 := by have := has_mem hm; rw [hH] at this; exact this
        have e1 : ar .and .i64 h 32 = 32 := hn
        rw [hn]
        rcases Int.lt_or_le o.buf 0 with hb | hb
        · have c2 : cm .lss o.buf 0 = true := cm_lo hb
          repeat' (first | refine C.seq ?_ | refine C.region ?_ | refine L.nil ?_ | refine D.seq ?_ | refine L.move (k := ?_) | refine L.assign (k := ?_) | refine L.cm (c := ?_) | refine L.ar (c := ?_) | refine L.fieldAddr (c := ?_) | refine L.load1 0 (c := ?_) | refine C.yes (h1 := ?_) | refine C.no (h1 := ?_) | refine L.pickT (k := ?_) | refine L.pickF (k := ?_) | refine L.want (k := ?_) | refine L.pass (k := ?_) | refine C.ret ?_ | refine D.thenRet ?_ | refine C.exit ?_ | refine D.thenExit ?_ | refine D.blkExit ?_ | refine C.skip ?_ | refine L.passU (k := ?_) | refine L.lenR s1 (c := ?_) | exact D.endsG | (refine L.andB 5 (b2 := ?_) (h1 := fun hb => ?_) (h2 := fun hb => ?_) (k := ?_); rotate_left) | (refine L.orB 8 (b2 := ?_) (h1 := fun hb => ?_) (h2 := fun hb => ?_) (k := ?_); rotate_left) | refine C.yesH (h1 := ?_) | refine C.noH (h1 := ?_) | (refine C.condE (h1 := fun hc => ?_) (h2 := fun hc => ?_)))
          all_goals (refine D.ret (vs := [_]) (RV.tmp rfl RV.nil) ?_; intro w' hw; refine Post.mkD 2 hw rfl ⟨congrArg (fun b => shut [Value.bool b]) (Eq.symm ?_), rfl⟩; simp only [show cm .eql 32 0 = false from rfl, show cm .neq 32 0 = true from rfl, Bool.true_and, Bool.false_and, c2, Bool.true_or])
          all_goals (repeat (first | (refine (if_pos ?_).trans ?_; · first | with_reducible assumption | rfl) | (refine (if_neg ?_).trans ?_; · (refine ne_true_of_eq_false ?_; first | with_reducible assumption | rfl))))
          all_goals rfl
        rcases Int.lt_or_le o.buf bs.length with hb2 | hb2
        · have c2 : cm .lss o.buf 0 = false := cm_lo' hb
          have c3 : cm .geq o.buf bs.length = false := cm_ge' hb2
          obtain ⟨j, hj⟩ : ∃ j : Nat, o.buf = j := ⟨o.buf.toNat, by omega⟩
          have hlt : j < bs.length := by omega
          obtain ⟨b, hbj⟩ : ∃ b, bs[j]? = some b := ⟨_, List.getElem?_eq_getElem hlt⟩
          have e2 : bAt bs o.buf = b := by unfold bAt; rw [show o.buf.toNat = j by omega, hbj]; rfl
          obtain ⟨k0, k1, k2⟩ := b_at hbj
          have o1 := hr.2 (by omega)
          have hs2 := number_S regs vb vo bs o (fun _ => ⟨hb, hb2⟩)
          rw [e2]
          repeat' (first | refine C.seq ?_ | refine C.region ?_ | refine L.nil ?_ | refine D.seq ?_ | refine L.move (k := ?_) | refine L.assign (k := ?_) | refine L.cm (c := ?_) | refine L.ar (c := ?_) | refine L.fieldAddr (c := ?_) | refine L.load1 0 (c := ?_) | refine L.load1 1 (c := ?_) | refine L.loadA 0 (c := ?_) | refine L.loadA 1 (c := ?_) | refine C.no (h1 := ?_) | refine L.pickT (k := ?_) | refine L.pickF (k := ?_) | refine L.want (k := ?_) | refine L.pass (k := ?_) | refine C.ret ?_ | refine D.thenRet ?_ | refine C.exit ?_ | refine D.thenExit ?_ | refine D.blkExit ?_ | refine C.skip ?_ | refine L.passU (k := ?_) | refine L.lenR s1 (c := ?_) | refine L.callQ hs2 (hpre := fun w' hw => hr.at hw) (k := ?_) | refine L.indexR s1 hlt (hi := hj) (c := ?_) | refine L.loadF o1 k1 (c := ?_) | exact D.endsG | (refine L.andB 5 (b2 := ?_) (h1 := fun hb => ?_) (h2 := fun hb => ?_) (k := ?_); rotate_left) | (refine L.orB 8 (b2 := ?_) (h1 := fun hb => ?_) (h2 := fun hb => ?_) (k := ?_); rotate_left) | (refine L.andB 8 (b2 := ?_) (h1 := fun hb => ?_) (h2 := fun hb => ?_) (k := ?_); rotate_left) | refine C.yesH (h1 := ?_) | refine C.noH (h1 := ?_) | (refine C.condE (h1 := fun hc => ?_) (h2 := fun hc => ?_)))
          all_goals (refine D.ret (vs := [_]) (RV.tmp rfl RV.nil) ?_; intro w' hw; refine Post.mkD 2 hw rfl ⟨congrArg (fun b => shut [Value.bool b]) (Eq.symm ?_), rfl⟩; simp only [show cm .eql 32 0 = false from rfl, show cm .neq 32 0 = true from rfl, Bool.true_and, Bool.false_and, c2, c3, Bool.false_or])
          all_goals (repeat (first | (refine (if_pos ?_).trans ?_; · first | with_reducible assumption | rfl) | (refine (if_neg ?_).trans ?_; · (refine ne_true_of_eq_false ?_; first | with_reducible assumption | rfl))))
          all_goals rfl
        · have c2 : cm .lss o.buf 0 = false := cm_lo' hb
          have c3 : cm .geq o.buf bs.length = true := cm_ge hb2
          repeat' (first | refine C.seq ?_ | refine C.region ?_ | refine L.nil ?_ | refine D.seq ?_ | refine L.move (k := ?_) | refine L.assign (k := ?_) | refine L.cm (c := ?_) | refine L.ar (c := ?_) | refine L.fieldAddr (c := ?_) | refine L.load1 0 (c := ?_) | refine L.load1 1 (c := ?_) | refine C.yes (h1 := ?_) | refine C.no (h1 := ?_) | refine L.pickT (k := ?_) | refine L.pickF (k := ?_) | refine L.want (k := ?_) | refine L.pass (k := ?_) | refine C.ret ?_ | refine D.thenRet ?_ | refine C.exit ?_ | refine D.thenExit ?_ | refine D.blkExit ?_ | refine C.skip ?_ | refine L.passU (k := ?_) | refine L.lenR s1 (c := ?_) | exact D.endsG | (refine L.andB 5 (b2 := ?_) (h1 := fun hb => ?_) (h2 := fun hb => ?_) (k := ?_); rotate_left) | (refine L.orB 8 (b2 := ?_) (h1 := fun hb => ?_) (h2 := fun hb => ?_) (k := ?_); rotate_left) | refine C.yesH (h1 := ?_) | refine C.noH (h1 := ?_) | (refine C.condE (h1 := fun hc => ?_) (h2 := fun hc => ?_)))
          all_goals (refine D.ret (vs := [_]) (RV.tmp rfl RV.nil) ?_; intro w' hw; refine Post.mkD 2 hw rfl ⟨congrArg (fun b => shut [Value.bool b]) (Eq.symm ?_), rfl⟩; simp only [show cm .eql 32 0 = false from rfl, show cm .neq 32 0 = true from rfl, Bool.true_and, Bool.false_and, c2, c3, Bool.true_or, Bool.false_or])
          all_goals (repeat (first | (refine (if_pos ?_).trans ?_; · first | with_reducible assumption | rfl) | (refine (if_neg ?_).trans ?_; · (refine ne_true_of_eq_false ?_; first | with_reducible assumption | rfl))))
          all_goals rfl
end Go.Proofs.Ytkjlgapkcdcmgaa
