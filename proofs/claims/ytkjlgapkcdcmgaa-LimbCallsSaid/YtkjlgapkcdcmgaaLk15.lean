/- secrecy: Secret, the rules, Check. -/
import Derived.Test.YtkjlgapkcdcmgaaLk14
set_option linter.unusedVariables false
set_option linter.unusedSimpArgs false
namespace Go.Proofs.Ytkjlgapkcdcmgaa
open Go Go.RowKit SL
attribute [local irreducible] SL.L SL.C SL.D SL.N SL.H SL.QL SL.QW SL.QP

def secL (m n : Nat) : List Bool := (List.range n).map (fun r => m.testBit r)
theorem secL_len (m n : Nat) : (secL m n).length = n := by simp [secL]
theorem secL_succ (m n : Nat) : secL m (n + 1) = secL m n ++ [m.testBit n] := by simp [secL, List.range_succ]
/-- What Secret tells. -/
def SecIs (regs : Int) (bs : List Bf) (os : List Lop) (l : List Bool) : Prop := if (checkM regs bs os).2 = 0 then ∃ m : Nat, Least bs os m ∧ m < 18446744073709551616 ∧ l = secL m regs.toNat else l = []
theorem mhas_nat (m i : Nat) : mhas m (i : Int) = m.testBit i := by
  unfold mhas; rw [cm_ge (by omega)]; rfl
set_option maxHeartbeats 4000000 in
theorem Secret_S (regs : Int) (vb vo : Value) (bs : List Bf) (os : List Lop) (hbl : bs.length ≤ maxLen) : Ctr Try.prog 18 [progV regs vb vo] []
    (fun w => Rd w [] vb bs.length (bs.flatMap encB) ∧ Rd w [] vo os.length (os.flatMap encO)) (fun v B => ∃ l y, SecIs regs bs os l ∧ osG 1 l.length (l.map Value.bool) y ∧ v = shut [osV l.length y] ∧ B = osC 4 y []) := by
  refine Ctr.enter Try.func18 Try.ntmps18 rfl rfl (fun w hr => ?_)
  have K := check_S regs vb vo bs os hbl
  unfold progV
  repeat' (first | refine C.seq ?_ | refine C.region ?_ | refine L.nil ?_ | refine D.seq ?_ | refine L.assign (k := ?_) | refine L.loadA 0 (c := ?_) | refine L.box (c := fun _ => ?_))
  rename_i pb
  refine L.callP [] K (hpre := fun w hw => ⟨hr.1.at hw, hr.2.at hw⟩) (k := ?_)
  rintro v B ⟨rfl, rfl⟩
  rw [hdrop_nil]
  unfold shut
  rw [List.nil_append]
  by_cases he : (checkM regs bs os).2 = 0
  · have c1 : cm .neq (checkM regs bs os).2 0 = false := cm_ne' he
    obtain ⟨ha, h0, h64, hb32, ho, hh, hf⟩ := check_ok he
    have hok : ∀ o ∈ os, OpOk regs bs o := fun o hm => opOk h0 (hf o hm)
    have S := secret_S regs vb vo bs os h64 (by omega) hok
    repeat' (first | refine C.seq ?_ | refine C.region ?_ | refine L.nil ?_ | refine D.seq ?_ | refine L.move (k := ?_) | refine L.assign (k := ?_) | refine L.cm (c := ?_) | refine L.loadA 0 (c := ?_) | refine L.extract (c := ?_) | refine C.no (h1 := ?_) | refine C.skip ?_)
    refine L.callP [] S (hpre := fun w hw => ⟨hr.1.at hw, hr.2.at hw⟩) (k := ?_)
    rintro v B ⟨m, hl, hm, rfl, rfl⟩
    rw [hdrop_nil]
    rw [List.nil_append]
    repeat' (first | refine C.seq ?_ | refine C.region ?_ | refine L.nil ?_ | refine D.seq ?_ | refine L.move (k := ?_) | refine L.assign (k := ?_) | refine L.fieldAddr (c := ?_) | refine L.load1 0 (c := ?_) | refine C.block ?_)
    obtain ⟨n, hn⟩ : ∃ n : Nat, regs = n := ⟨regs.toNat, by omega⟩
    refine C.loop (α := Nat × OS) (fun x => x.1 ≤ n ∧ osG 1 x.1 ((secL m x.1).map Value.bool) x.2) (fun x => [(1, .pointer (some ⟨pb, 0, none⟩)), (5, .int .u64 m), (6, osV x.1 x.2), (18, .int .i64 regs), (19, .int .i64 x.1)])
      (fun x => osC 4 x.2 [(pb, ob [.int .i64 regs, vb, vo] 25)]) (fun x => n - x.1) (0, none)
      (fun a w hs => hs.lessE rfl (lk_cons rfl (lk_cons rfl (lk_cons rfl (lk_cons rfl (lk_cons rfl (fun _ _ h => lk_nil h))))))) ⟨Nat.zero_le _, osG.nil⟩ ?_
    rintro ⟨i, y⟩ ⟨hi, hG⟩
    simp only at hi hG ⊢
    rcases Nat.lt_or_ge i n with hlt | hge
    · have c3 : cm .lss (i : Int) regs = true := cm_lo (by omega)
      have c2 : ar .add .i64 (i : Int) 1 = ((i + 1 : Nat) : Int) := wrap_nat (by omega)
      have hh := mhas_S m hm i (by omega)
      rw [mhas_nat] at hh
      repeat' (first | refine L.buildS (c := fun nb => ?_) | refine C.seq ?_ | refine C.region ?_ | refine L.nil ?_ | refine D.seq ?_ | refine L.move (k := ?_) | refine L.assign (k := ?_) | refine L.cm (c := ?_) | refine C.yes (h1 := ?_) | refine C.block ?_ | refine C.skip ?_ | refine L.callQ (hh) (k := ?_))
      refine L.appendU [_] (L2 := [(pb, ob [.int .i64 regs, vb, vo] 25)]) (u := .slice (some ⟨nb, 0, none⟩) 1 1) (k := 1) (news := [.bool (m.testBit i)]) hG rfl (fun w hw => Rd.own (hw.holds _ List.mem_cons_self) (by simp) (Nat.le_refl _) 1 rfl) rfl (by intro u hu; simp at hu; subst hu; rfl) (by unfold maxLen; omega) (by omega) (c := fun y' hG' _ => ?_)
      repeat' (first | refine C.region ?_ | refine L.nil ?_ | refine D.seq ?_ | refine L.move (k := ?_) | refine L.assign (k := ?_) | refine L.ar (c := ?_) | refine D.blkNormal ?_)
      exact D.then_ fun a1 w1 hs => ⟨(i + 1, y'), ⟨by omega, by rw [secL_succ]; simpa using hG'⟩, by simp only; omega, hs.lessD 1 rfl (lk_cons rfl (lk_cons rfl (lk_cons rfl (lk_cons rfl (lk_cons rfl (fun _ _ h => lk_nil h))))))⟩
    · have c3 : cm .lss (i : Int) regs = false := cm_lo' (by omega)
      repeat' (first | refine C.seq ?_ | refine C.region ?_ | refine L.nil ?_ | refine D.seq ?_ | refine L.move (k := ?_) | refine L.assign (k := ?_) | refine L.cm (c := ?_) | refine C.no (h1 := ?_) | refine C.ret ?_ | refine C.exit ?_ | refine D.thenExit ?_ | refine D.blkExit ?_ | refine D.seqR (h := ?_))
      have hin : i = n := by omega
      subst hin
      have hrn : regs.toNat = i := by omega
      refine D.ret (vs := [_]) (RV.tmp rfl RV.nil) ?_
      intro w' hw
      refine Post.mkD 1 (hw.perm (M' := (pb, ob [.int .i64 regs, vb, vo] 25) :: osC 4 y []) (by rw [osC_app 4 y [_]]; exact (List.perm_append_singleton _ _).symm)) rfl ⟨secL m i, y, ?_, ?_, ?_, rfl⟩
      · unfold SecIs; rw [if_pos he]; exact ⟨m, hl, hm, by rw [hrn]⟩
      · rw [secL_len]; exact hG
      · rw [secL_len]; rfl
  · have c1 : cm .neq (checkM regs bs os).2 0 = true := cm_ne he
    repeat' (first | refine C.seq ?_ | refine C.region ?_ | refine L.nil ?_ | refine D.seq ?_ | refine L.move (k := ?_) | refine L.assign (k := ?_) | refine L.cm (c := ?_) | refine L.extract (c := ?_) | refine C.yes (h1 := ?_) | refine C.ret ?_ | refine D.thenRet ?_)
    refine D.ret (vs := [_]) (RV.tmp rfl RV.nil) ?_
    intro w' hw
    exact Post.mk (is := []) hw List.nodup_nil rfl ⟨[], none, by unfold SecIs; rw [if_neg he], osG.nil, rfl, rfl⟩
/-- The rules. -/
def ruleM (bs : List Bf) (m : Nat) (o : Lop) : Nat → Bool
  | 0 => mem o && mhas m o.a
  | 1 => (cm .eql o.k 15 && mhas m o.b) && !(bAt bs o.buf).sec
  | _ => cm .eql o.k 16 && mhas m o.d
def ruleV (mb : Nat) : Nat → Value
  | 0 => .func (.func 77) #[] #[.pointer (some ⟨mb, 0, none⟩)]
  | 1 => .func (.func 78) #[] #[]
  | _ => .func (.func 79) #[] #[]
theorem memory_S (o : Lop) : Ctr Try.prog 76 ([aggO o] ++ []) [] tt (is (.bool (mem o)) []) := by
  refine Ctr.enter Try.func76 Try.ntmps76 rfl rfl (fun w hr => ?_)
  unfold aggO
  repeat' (first | refine C.seq ?_ | refine C.region ?_ | refine L.nil ?_ | refine D.seq ?_ | refine L.move (k := ?_) | refine L.assign (k := ?_) | refine L.cm (c := ?_) | refine L.fieldAddr (c := ?_) | refine L.load1 0 (c := ?_) | refine L.box (c := fun _ => ?_) | refine L.pickT (k := ?_) | refine L.pickF (k := ?_) | refine L.want (k := ?_) | refine L.pass (k := ?_) | refine C.ret ?_ | exact D.endsG | (refine L.orB 3 (b2 := ?_) (h1 := fun hb => ?_) (h2 := fun hb => ?_) (k := ?_); rotate_left))
  (refine D.ret (vs := [_]) (RV.tmp rfl RV.nil) ?_; intro w' hw; exact Post.mk (is := []) hw List.nodup_nil rfl ⟨rfl, rfl⟩)
set_option maxHeartbeats 2000000 in
theorem rule0_S (regs : Int) (vb vo : Value) (bs : List Bf) (o : Lop) (m mb : Nat) (hm : m < 18446744073709551616) (hrg : regs ≤ 64) (hok : OpOk regs bs o) : Ctr Try.prog 77 ([progV regs vb vo, .int .u64 m, aggO o] ++ [.pointer (some ⟨mb, 0, none⟩)]) []
    (fun w => Old w [] mb 0 [.func (.func 76) #[] #[]]) (is (.bool (ruleM bs m o 0)) []) := by
  refine Ctr.enter Try.func77 Try.ntmps77 rfl rfl (fun w hr => ?_)
  have hh := mhas_S m hm o.a (by have := hok.a; omega)
  have hme := memory_S o
  unfold aggO progV
  repeat' (first | refine C.seq ?_ | refine C.region ?_ | refine L.nil ?_ | refine D.seq ?_ | refine L.move (k := ?_) | refine L.assign (k := ?_) | refine L.loadA 0 (c := ?_) | refine L.box (c := fun _ => ?_) | refine L.loadF hr (i := 0) rfl (c := ?_) | refine L.call (fs := []) (cs := []) (A := []) (f := 76) [] (by exact rfl) (by exact rfl) (by exact rfl) (by exact rfl) (by exact List.nodup_nil) hme (fun w1 hw1 => trivial) (fun v' B hvB => ?_))
  obtain ⟨rfl, rfl⟩ := hvB
  rw [hdrop_nil, List.nil_append]
  repeat' (first | refine L.nil ?_ | refine D.seq ?_ | refine L.move (k := ?_) | refine L.assign (k := ?_) | refine L.fieldAddr (c := ?_) | refine L.load1 0 (c := ?_) | refine L.pickT (k := ?_) | refine L.pickF (k := ?_) | refine L.want (k := ?_) | refine L.pass (k := ?_) | refine C.ret ?_ | refine L.callQ (hh) (k := ?_) | exact D.endsG | (refine L.andB 4 (b2 := ?_) (h1 := fun hb => ?_) (h2 := fun hb => ?_) (k := ?_); rotate_left))
  unfold ruleM
  (refine D.ret (vs := [_]) (RV.tmp rfl RV.nil) ?_; intro w' hw; exact Post.mk (is := []) hw List.nodup_nil rfl ⟨rfl, rfl⟩)
set_option maxHeartbeats 4000000 in
theorem rule1_S (regs : Int) (vb vo : Value) (bs : List Bf) (o : Lop) (m : Nat) (hm : m < 18446744073709551616) (hrg : regs ≤ 64) (hok : OpOk regs bs o) : Ctr Try.prog 78 ([progV regs vb vo, .int .u64 m, aggO o] ++ []) []
    (fun w => Rd w [] vb bs.length (bs.flatMap encB)) (is (.bool (ruleM bs m o 1)) []) := by
  refine Ctr.enter Try.func78 Try.ntmps78 rfl rfl (fun w hr => ?_)
  have s1 := hr.1
  have hh := mhas_S m hm o.b (by have := hok.b; omega)
  unfold aggO progV
  by_cases hk : o.k = 15
  · have ce : cm .eql o.k 15 = true := cm_yes hk
    obtain ⟨h0, h1⟩ := hok.buf (.inr hk)
    obtain ⟨j, hj⟩ : ∃ j : Nat, o.buf = j := ⟨o.buf.toNat, by omega⟩
    have hlt : j < bs.length := by omega
    obtain ⟨b, hb⟩ : ∃ b, bs[j]? = some b := ⟨_, List.getElem?_eq_getElem hlt⟩
    have e1 : bAt bs o.buf = b := by unfold bAt; rw [show o.buf.toNat = j by omega, hb]; rfl
    obtain ⟨k0, k1, k2⟩ := b_at hb
    have o1 := hr.2 (by omega)
    repeat' (first | refine C.seq ?_ | refine C.region ?_ | refine L.nil ?_ | refine D.seq ?_ | refine L.move (k := ?_) | refine L.assign (k := ?_) | refine L.cm (c := ?_) | refine L.fieldAddr (c := ?_) | refine L.load1 0 (c := ?_) | refine L.load1 1 (c := ?_) | refine L.box (c := fun _ => ?_) | refine L.pickT (k := ?_) | refine L.pickF (k := ?_) | refine L.want (k := ?_) | refine L.pass (k := ?_) | refine L.not (c := ?_) | refine C.ret ?_ | refine L.callQ (hh) (k := ?_) | refine L.indexR s1 hlt (hi := hj) (c := ?_) | refine L.loadF o1 k2 (c := ?_) | exact D.endsG | (refine L.andB 8 (b2 := ?_) (h1 := fun hb => ?_) (h2 := fun hb => ?_) (k := ?_); rotate_left))
    rw [show ruleM bs m o 1 = (mhas m o.b && !b.sec) by unfold ruleM; rw [ce, e1]; rfl]
    (refine D.ret (vs := [_]) (RV.tmp rfl RV.nil) ?_; intro w' hw; exact Post.mk (is := []) hw List.nodup_nil rfl ⟨rfl, rfl⟩)
  · have ce : cm .eql o.k 15 = false := cm_no hk
    repeat' (first | refine C.seq ?_ | refine C.region ?_ | refine L.nil ?_ | refine D.seq ?_ | refine L.move (k := ?_) | refine L.assign (k := ?_) | refine L.cm (c := ?_) | refine L.fieldAddr (c := ?_) | refine L.load1 0 (c := ?_) | refine L.box (c := fun _ => ?_) | refine L.pickF (k := ?_) | refine L.pass (k := ?_) | refine C.ret ?_ | refine L.callQ (hh) (k := ?_) | fail)
    rw [show ruleM bs m o 1 = false by unfold ruleM; rw [ce]; rfl]
    (refine D.ret (vs := [_]) (RV.tmp rfl RV.nil) ?_; intro w' hw; exact Post.mk (is := []) hw List.nodup_nil rfl ⟨rfl, rfl⟩)
set_option maxHeartbeats 2000000 in
theorem rule2_S (regs : Int) (vb vo : Value) (bs : List Bf) (o : Lop) (m : Nat) (hm : m < 18446744073709551616) (hrg : regs ≤ 64) (hok : OpOk regs bs o) : Ctr Try.prog 79 ([progV regs vb vo, .int .u64 m, aggO o] ++ []) []
    tt (is (.bool (ruleM bs m o 2)) []) := by
  refine Ctr.enter Try.func79 Try.ntmps79 rfl rfl (fun w hr => ?_)
  have hh := mhas_S m hm o.d (by have := hok.d; omega)
  unfold aggO progV
  repeat' (first | refine C.seq ?_ | refine C.region ?_ | refine L.nil ?_ | refine D.seq ?_ | refine L.move (k := ?_) | refine L.assign (k := ?_) | refine L.cm (c := ?_) | refine L.fieldAddr (c := ?_) | refine L.load1 0 (c := ?_) | refine L.box (c := fun _ => ?_) | refine L.pickT (k := ?_) | refine L.pickF (k := ?_) | refine L.want (k := ?_) | refine L.pass (k := ?_) | refine C.ret ?_ | refine L.callQ (hh) (k := ?_) | exact D.endsG | (refine L.andB 4 (b2 := ?_) (h1 := fun hb => ?_) (h2 := fun hb => ?_) (k := ?_); rotate_left))
  unfold ruleM
  (refine D.ret (vs := [_]) (RV.tmp rfl RV.nil) ?_; intro w' hw; exact Post.mk (is := []) hw List.nodup_nil rfl ⟨rfl, rfl⟩)
/-- What the closure of Check reads. -/
def Kc (regs : Int) (vb vo : Value) (bs : List Bf) (o : Lop) (m mb pb qb xb : Nat) (w : World) : Prop :=
  Old w [] pb 0 [.int .i64 regs, vb, vo] ∧ Old w [] qb 0 [.int .u64 m] ∧ Old w [] xb 0 [.int .i64 o.k, .int .i64 o.d, .int .i64 o.e, .int .i64 o.a, .int .i64 o.b, .int .i64 o.c, .int .i64 o.buf, .int .u64 o.imm] ∧ Old w [] mb 0 [.func (.func 76) #[] #[]] ∧ Rd w [] vb bs.length (bs.flatMap encB)
theorem Kc.at {regs : Int} {vb vo : Value} {bs : List Bf} {o : Lop} {m mb pb qb xb : Nat} {w w' : World} (h : Kc regs vb vo bs o m mb pb qb xb w) {M : Hp} (hw : At w [] M w') : Kc regs vb vo bs o m mb pb qb xb w' :=
  ⟨h.1.at hw, h.2.1.at hw, h.2.2.1.at hw, h.2.2.2.1.at hw, h.2.2.2.2.at hw⟩
set_option maxHeartbeats 4000000 in
theorem rule_S (regs : Int) (vb vo : Value) (bs : List Bf) (o : Lop) (m mb pb qb xb : Nat) (hm : m < 18446744073709551616) (hrg : regs ≤ 64) (hok : OpOk regs bs o) (r : Nat) (hr3 : r < 3) :
    Ctr Try.prog 58 ([ruleV mb r] ++ [.pointer (some ⟨pb, 0, none⟩), .pointer (some ⟨qb, 0, none⟩), .pointer (some ⟨xb, 0, none⟩)]) [] (Kc regs vb vo bs o m mb pb qb xb) (is (.bool (ruleM bs m o r)) []) := by
  refine Ctr.enter Try.func58 Try.ntmps58 rfl rfl (fun w hr => ?_)
  obtain ⟨h1, h2, h3, h4, h5⟩ := hr
  have r0 := rule0_S regs vb vo bs o m mb hm hrg hok
  have r1 := rule1_S regs vb vo bs o m hm hrg hok
  have r2 := rule2_S regs vb vo bs o m hm hrg hok
  have hc : r = 0 ∨ r = 1 ∨ r = 2 := by omega
  rcases hc with rfl | rfl | rfl
  · repeat' (first | refine L.call (fs := []) (cs := [.pointer (some ⟨mb, 0, none⟩)]) (A := []) (f := 77) [] (by exact rfl) (by exact rfl) (by exact rfl) (by exact rfl) (by exact List.nodup_nil) r0 (fun w1 hw1 => h4.at hw1) (fun v' B hvB => ?_) | refine C.seq ?_ | refine C.region ?_ | refine L.nil ?_ | refine D.seq ?_ | refine L.move (k := ?_) | refine L.assign (k := ?_) | refine C.ret ?_ | refine L.loadF h2 (i := 0) rfl (c := ?_) | refine L.loadOA h1 (i := 0) (ho := rfl) (hi := Nat.le_refl 3) (hcs := rfl) (c := ?_) | refine L.loadOA h3 (i := 0) (ho := rfl) (hi := Nat.le_refl 8) (hcs := rfl) (c := ?_))
    obtain ⟨rfl, rfl⟩ := hvB
    rw [hdrop_nil, List.nil_append]
    repeat' (first | fail)
    (refine D.ret (vs := [_]) (RV.tmp rfl RV.nil) ?_; intro w' hw; exact Post.mk (is := []) hw List.nodup_nil rfl ⟨rfl, rfl⟩)
  · repeat' (first | refine L.call (fs := []) (cs := []) (A := []) (f := 78) [] (by exact rfl) (by exact rfl) (by exact rfl) (by exact rfl) (by exact List.nodup_nil) r1 (fun w1 hw1 => h5.at hw1) (fun v' B hvB => ?_) | refine C.seq ?_ | refine C.region ?_ | refine L.nil ?_ | refine D.seq ?_ | refine L.move (k := ?_) | refine L.assign (k := ?_) | refine C.ret ?_ | refine L.loadF h2 (i := 0) rfl (c := ?_) | refine L.loadOA h1 (i := 0) (ho := rfl) (hi := Nat.le_refl 3) (hcs := rfl) (c := ?_) | refine L.loadOA h3 (i := 0) (ho := rfl) (hi := Nat.le_refl 8) (hcs := rfl) (c := ?_))
    obtain ⟨rfl, rfl⟩ := hvB
    rw [hdrop_nil, List.nil_append]
    repeat' (first | fail)
    (refine D.ret (vs := [_]) (RV.tmp rfl RV.nil) ?_; intro w' hw; exact Post.mk (is := []) hw List.nodup_nil rfl ⟨rfl, rfl⟩)
  · repeat' (first | refine L.call (fs := []) (cs := []) (A := []) (f := 79) [] (by exact rfl) (by exact rfl) (by exact rfl) (by exact rfl) (by exact List.nodup_nil) r2 (fun w1 hw1 => trivial) (fun v' B hvB => ?_) | refine C.seq ?_ | refine C.region ?_ | refine L.nil ?_ | refine D.seq ?_ | refine L.move (k := ?_) | refine L.assign (k := ?_) | refine C.ret ?_ | refine L.loadF h2 (i := 0) rfl (c := ?_) | refine L.loadOA h1 (i := 0) (ho := rfl) (hi := Nat.le_refl 3) (hcs := rfl) (c := ?_) | refine L.loadOA h3 (i := 0) (ho := rfl) (hi := Nat.le_refl 8) (hcs := rfl) (c := ?_))
    obtain ⟨rfl, rfl⟩ := hvB
    rw [hdrop_nil, List.nil_append]
    repeat' (first | fail)
    (refine D.ret (vs := [_]) (RV.tmp rfl RV.nil) ?_; intro w' hw; exact Post.mk (is := []) hw List.nodup_nil rfl ⟨rfl, rfl⟩)
end Go.Proofs.Ytkjlgapkcdcmgaa
