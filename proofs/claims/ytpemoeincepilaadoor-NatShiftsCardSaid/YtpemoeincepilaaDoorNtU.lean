/- The law NatLaws: its walk. Conditions: limbs are numbers of 64 bits. -/
import Derived.Test.YtpemoeincepilaaDoorNtT
import Derived.Test.YtpemoeincepilaaDoorFrN
import Derived.Test.YtpemoeincepilaaDoorFin
set_option linter.unusedVariables false
set_option linter.unusedSimpArgs false
namespace Go.Proofs.YtpemoeincepilaaDoor.Nt
open Go Go.RowKit SL
attribute [local irreducible] SL.L SL.C SL.D SL.N SL.H SL.QL SL.QW SL.QP

/-- Limbs that may be reckoned with. -/
def nt (l : List Nat) : Prop := okL l ∧ l.length ≤ 300000
theorem nt_can {k n : Nat} (h : sm k n) (hk : k ≤ 300000) : nt (can n) := ⟨can_ok n, Nat.le_trans (sm_len h) hk⟩
theorem addN (l m : List Nat) (x : Nat) (hl : nt l) (hm : nt m) (hx : lv l + lv m = x) (v u : Value) : Ctr Tryd.prog 24 [v, u] [] (fun w => RdN w [] v l ∧ RdN w [] u m) (natR x) := by
  subst hx; exact add_S l m hl.1 hm.1 (by have := hl.2; omega) (by have := hm.2; omega) v u
theorem mulN (l m : List Nat) (x : Nat) (hl : nt l) (hm : nt m) (hx : lv l * lv m = x) (v u : Value) : Ctr Tryd.prog 18 [v, u] [] (fun w => RdN w [] v l ∧ RdN w [] u m) (natR x) := by
  subst hx; exact mul_S l m hl.1 hm.1 (by have := hl.2; omega) (by have := hm.2; omega) v u
theorem subN (l m : List Nat) (x : Nat) (e : Int) (hl : nt l) (hm : nt m) (hx : lv l - lv m = x) (he : (if lv l < lv m then (2 : Int) else 0) = e) (v u : Value) : Ctr Tryd.prog 26 [v, u] [] (fun w => RdN w [] v l ∧ RdN w [] u m) (natE x e) := by
  subst hx; subst he; exact sub_S l m hl.1 hm.1 (by have := hl.2; omega) (by have := hm.2; omega) v u
theorem cmpS (l m : List Nat) (x : Int) (hl : nt l) (hm : nt m) (hx : cmpN (lv l) (lv m) = x) (v u : Value) : Ctr Tryd.prog 19 [v, u] [] (fun w => RdN w [] v l ∧ RdN w [] u m) (is (.int .i64 x) []) := by
  subst hx; exact compare_S l m hl.1 hm.1 (by have := hl.2; omega) (by have := hm.2; omega) v u
theorem natT (l m : List Nat) (hl : nt l) (hm : nt m) (hx : lv l = lv m) (v u : Value) : Ctr Tryd.prog 13 [v, u] [] (fun w => RdN w [] v l ∧ RdN w [] u m) (is (.bool true) []) := by
  have := natural_S l m hl.1 hm.1 (by have := hl.2; omega) (by have := hm.2; omega) v u
  rw [decide_eq_true hx] at this; exact this
theorem sameT (l : List Nat) (hl : nt l) (v u : Value) : Ctr Tryd.prog 27 [v, u] [] (fun w => RdN w [] v l ∧ RdN w [] u l) (is (.bool true) []) := same_S l (by have := hl.2; omega) v u
theorem trimT (n : Nat) (h : nt (can n)) (v : Value) : Ctr Tryd.prog 14 [v] [] (fun w => RdN w [] v (can n)) (is (.bool true) []) := trimmed_S (can n) (by have := h.2; omega) (can_trm n) v
set_option maxRecDepth 100000 in
set_option maxHeartbeats 16000000 in
theorem laws_S (a b c : List Nat) (oa : okL a) (ob' : okL b) (oc : okL c) (ma : a.length ≤ maxLen) (mb : b.length ≤ maxLen) (mc : c.length ≤ maxLen) (va vb vc : Value) :
    Ctr Tryd.prog 6 [va, vb, vc] [] (fun w => RdN w [] va a ∧ RdN w [] vb b ∧ RdN w [] vc c) (is (.bool true) []) := by
  refine Ctr.enter Tryd.func6 Tryd.ntmps6 rfl rfl (fun w hr => ?_)
  obtain ⟨ra, rb, rc⟩ := hr
  have sa := ra.1
  have sb := rb.1
  have sc := rc.1
  have hK0 : Kp w w [(va, a), (vb, b), (vc, c)] := Kp.init (fun p hp => by
    simp only [List.mem_cons, List.not_mem_nil, or_false] at hp
    rcases hp with rfl | rfl | rfl
    · exact ra
    · exact rb
    · exact rc)
  have hLt := light_S va vb a.length b.length sa sb ma
  by_cases h1 : a.length ≤ 12 ∧ b.length ≤ 12
  case neg =>
    rw [decide_eq_false h1] at hLt
    repeat (first | refine C.seq ?_ | refine C.region ?_ | refine L.nil ?_ | refine D.seq ?_ | refine L.move (k := ?_) | refine L.assign (k := ?_) | refine C.yes (h1 := ?_) | refine C.no (h1 := ?_) | refine L.pickT (k := ?_) | refine L.pass (k := ?_) | refine L.not (c := ?_) | refine C.ret ?_ | refine D.thenRet ?_ | refine C.skip ?_ | refine L.callQ (lives_S) (k := ?_) | refine L.callQ (hLt) (k := ?_))
    (refine D.ret (vs := [_]) (RV.tmp rfl RV.nil) ?_; intro w' hw; exact Post.mk (is := []) hw List.nodup_nil rfl ⟨rfl, rfl⟩)
  rw [decide_eq_true h1] at hLt
  by_cases h2 : 12 < c.length
  · have c0 : cm .gtr (c.length : Int) 12 = true := cm_gt (by omega)
    repeat (first | refine C.seq ?_ | refine C.region ?_ | refine L.nil ?_ | refine D.seq ?_ | refine L.move (k := ?_) | refine L.assign (k := ?_) | refine L.cm (c := ?_) | refine C.yes (h1 := ?_) | refine C.no (h1 := ?_) | refine L.pickF (k := ?_) | refine L.want (k := ?_) | refine L.not (c := ?_) | refine C.ret ?_ | refine D.thenRet ?_ | refine C.skip ?_ | refine L.callQ (lives_S) (k := ?_) | refine L.callQ (hLt) (k := ?_) | refine L.lenR sc (c := ?_))
    (refine D.ret (vs := [_]) (RV.tmp rfl RV.nil) ?_; intro w' hw; exact Post.mk (is := []) hw List.nodup_nil rfl ⟨rfl, rfl⟩)
  have c0 : cm .gtr (c.length : Int) 12 = false := cm_gt' (by omega)
  have na : nt a := ⟨oa, by omega⟩
  have nb : nt b := ⟨ob', by omega⟩
  have nc : nt c := ⟨oc, by omega⟩
  have xa : sm 12 (lv a) := sm_lv oa h1.1
  have xb : sm 12 (lv b) := sm_lv ob' h1.2
  have xc : sm 12 (lv c) := sm_lv oc (by omega)
  obtain ⟨A, hA⟩ : ∃ A, A = lv a := ⟨_, rfl⟩
  obtain ⟨B, hB⟩ : ∃ B, B = lv b := ⟨_, rfl⟩
  obtain ⟨Z, hZ⟩ : ∃ Z, Z = lv c := ⟨_, rfl⟩
  rw [← hA] at xa
  rw [← hB] at xb
  rw [← hZ] at xc
  have n1 := nt_can (sm_add xa xb) (by omega)
  have n2 := nt_can xa (by omega)
  have n3 := nt_can (sm_sub B xa) (by omega)
  have n4 := nt_can (sm_mul xa xb) (by omega)
  have n5 := nt_can (sm_add (sm_add xa xb) (sm_le xc (by omega : 12 ≤ 13))) (by omega)
  have n6 := nt_can (sm_add xb xc) (by omega)
  have n7 := nt_can (sm_mul (sm_mul xa xb) xc) (by omega)
  have n8 := nt_can (sm_mul xb xc) (by omega)
  have n9 := nt_can (sm_mul xa (sm_add xb xc)) (by omega)
  have n10 := nt_can (sm_mul xa xc) (by omega)
  by_cases hlt : A < B
  · have hcm : cmpN A B = -1 := by unfold cmpN; rw [if_pos hlt]
    repeat (first | refine C.seq ?_ | refine C.region ?_ | refine L.nil ?_ | refine D.seq ?_ | refine L.move (k := ?_) | refine L.assign (k := ?_) | refine L.cm (c := ?_) | refine C.no (h1 := ?_) | refine L.pickF (k := ?_) | refine L.want (k := ?_) | refine L.not (c := ?_) | refine C.skip ?_ | refine L.callQ (lives_S) (k := ?_) | refine L.callQ (hLt) (k := ?_) | refine L.lenR sc (c := ?_))
    refine callN hK0 (addN (a) (b) (A + B) na nb (by rw [hA, hB]) va vb) (hpre := fun _ hw => ⟨hK0.rd List.mem_cons_self hw, hK0.rd (List.mem_cons_of_mem _ List.mem_cons_self) hw⟩) (k := fun v1 w1 hK1 => ?_)
    repeat (first | refine C.seq ?_ | refine C.region ?_ | refine L.nil ?_ | refine L.move (k := ?_) | refine L.assign (k := ?_) | refine D.seqR (h := ?_))
    refine callE hK1 (subN (can (A + B)) (b) (A) (0) n1 nb (by rw [lv_can, ← hB]; omega) (by rw [lv_can, ← hB, if_neg (by omega)]) v1 vb) (hpre := fun _ hw => ⟨hK1.rd List.mem_cons_self hw, hK1.rd (List.mem_cons_of_mem _ (List.mem_cons_of_mem _ List.mem_cons_self)) hw⟩) (k := fun v2 w2 hK2 => ?_)
    repeat (first | refine C.seq ?_ | refine C.region ?_ | refine L.nil ?_ | refine L.move (k := ?_) | refine L.assign (k := ?_) | refine L.extract (c := ?_) | refine D.seqR (h := ?_))
    refine callE hK2 (subN (a) (b) (A - B) (2) na nb (by rw [hA, hB]) (by rw [← hA, ← hB, if_pos (by omega)]) va vb) (hpre := fun _ hw => ⟨hK2.rd (List.mem_cons_of_mem _ (List.mem_cons_of_mem _ List.mem_cons_self)) hw, hK2.rd (List.mem_cons_of_mem _ (List.mem_cons_of_mem _ (List.mem_cons_of_mem _ List.mem_cons_self))) hw⟩) (k := fun v3 w3 hK3 => ?_)
    repeat (first | refine C.seq ?_ | refine C.region ?_ | refine L.nil ?_ | refine L.move (k := ?_) | refine L.assign (k := ?_) | refine L.cm (c := ?_) | refine L.extract (c := ?_) | refine L.want (k := ?_) | refine D.seqR (h := ?_))
    refine L.callQ (natT (can (A)) (a) n2 na (by simp only [lv_can, ← hA]) v2 va) (hpre := fun _ hw => ⟨hK3.rd (List.mem_cons_of_mem _ List.mem_cons_self) hw, hK3.rd (List.mem_cons_of_mem _ (List.mem_cons_of_mem _ (List.mem_cons_of_mem _ List.mem_cons_self))) hw⟩) (k := ?_)
    repeat (first | refine L.move (k := ?_) | refine L.cm (c := ?_) | refine L.pickF (k := ?_) | refine L.want (k := ?_) | refine L.not (c := ?_))
    refine L.callQ (cmpS a b (-1) na nb (by rw [← hA, ← hB]; exact hcm) va vb) (hpre := fun _ hw => ⟨hK3.rd (List.mem_cons_of_mem _ (List.mem_cons_of_mem _ (List.mem_cons_of_mem _ List.mem_cons_self))) hw, hK3.rd (List.mem_cons_of_mem _ (List.mem_cons_of_mem _ (List.mem_cons_of_mem _ (List.mem_cons_of_mem _ List.mem_cons_self)))) hw⟩) (k := ?_)
    repeat (first | refine C.seq ?_ | refine C.region ?_ | refine L.nil ?_ | refine D.seq ?_ | refine L.move (k := ?_) | refine L.cm (c := ?_) | refine C.no (h1 := ?_) | refine L.pickF (k := ?_) | refine L.want (k := ?_) | refine L.pass (k := ?_) | refine C.skip ?_ | refine L.neB (c := ?_))
    refine callN hK3 (mulN (a) (b) (A * B) na nb (by rw [hA, hB]) va vb) (hpre := fun _ hw => ⟨hK3.rd (List.mem_cons_of_mem _ (List.mem_cons_of_mem _ (List.mem_cons_of_mem _ List.mem_cons_self))) hw, hK3.rd (List.mem_cons_of_mem _ (List.mem_cons_of_mem _ (List.mem_cons_of_mem _ (List.mem_cons_of_mem _ List.mem_cons_self)))) hw⟩) (k := fun v4 w4 hK4 => ?_)
    repeat (first | refine C.seq ?_ | refine C.region ?_ | refine L.nil ?_ | refine L.move (k := ?_) | refine L.assign (k := ?_) | refine D.seqR (h := ?_))
    refine L.callQ (trimT ((A + B)) n1 v1) (hpre := fun _ hw => hK4.rd (List.mem_cons_of_mem _ (List.mem_cons_of_mem _ (List.mem_cons_of_mem _ List.mem_cons_self))) hw) (k := ?_)
    repeat (first | refine L.move (k := ?_) | refine L.want (k := ?_))
    refine L.callQ (trimT ((A * B)) n4 v4) (hpre := fun _ hw => hK4.rd List.mem_cons_self hw) (k := ?_)
    repeat (first | refine L.move (k := ?_) | refine L.pickT (k := ?_) | refine L.want (k := ?_))
    refine callN hK4 (addN (b) (a) (A + B) nb na (by rw [hA, hB]; exact Nat.add_comm _ _) vb va) (hpre := fun _ hw => ⟨hK4.rd (List.mem_cons_of_mem _ (List.mem_cons_of_mem _ (List.mem_cons_of_mem _ (List.mem_cons_of_mem _ (List.mem_cons_of_mem _ List.mem_cons_self))))) hw, hK4.rd (List.mem_cons_of_mem _ (List.mem_cons_of_mem _ (List.mem_cons_of_mem _ (List.mem_cons_of_mem _ List.mem_cons_self)))) hw⟩) (k := fun v5 w5 hK5 => ?_)
    repeat (first | refine L.want (k := ?_))
    refine L.callQ (sameT (can (A + B)) n1 v1 v5) (hpre := fun _ hw => ⟨hK5.rd (List.mem_cons_of_mem _ (List.mem_cons_of_mem _ (List.mem_cons_of_mem _ (List.mem_cons_of_mem _ List.mem_cons_self)))) hw, hK5.rd List.mem_cons_self hw⟩) (k := ?_)
    repeat (first | refine L.move (k := ?_) | refine L.pickT (k := ?_) | refine L.want (k := ?_))
    refine callN hK5 (mulN (b) (a) (A * B) nb na (by rw [hA, hB]; exact Nat.mul_comm _ _) vb va) (hpre := fun _ hw => ⟨hK5.rd (List.mem_cons_of_mem _ (List.mem_cons_of_mem _ (List.mem_cons_of_mem _ (List.mem_cons_of_mem _ (List.mem_cons_of_mem _ (List.mem_cons_of_mem _ List.mem_cons_self)))))) hw, hK5.rd (List.mem_cons_of_mem _ (List.mem_cons_of_mem _ (List.mem_cons_of_mem _ (List.mem_cons_of_mem _ (List.mem_cons_of_mem _ List.mem_cons_self))))) hw⟩) (k := fun v6 w6 hK6 => ?_)
    repeat (first | refine L.want (k := ?_))
    refine L.callQ (sameT (can (A * B)) n4 v4 v6) (hpre := fun _ hw => ⟨hK6.rd (List.mem_cons_of_mem _ (List.mem_cons_of_mem _ List.mem_cons_self)) hw, hK6.rd List.mem_cons_self hw⟩) (k := ?_)
    repeat (first | refine L.move (k := ?_) | refine L.pickT (k := ?_) | refine L.want (k := ?_))
    refine callN hK6 (addN (can (A + B)) (c) (A + B + Z) n1 nc (by rw [lv_can, hZ]) v1 vc) (hpre := fun _ hw => ⟨hK6.rd (List.mem_cons_of_mem _ (List.mem_cons_of_mem _ (List.mem_cons_of_mem _ (List.mem_cons_of_mem _ (List.mem_cons_of_mem _ List.mem_cons_self))))) hw, hK6.rd (List.mem_cons_of_mem _ (List.mem_cons_of_mem _ (List.mem_cons_of_mem _ (List.mem_cons_of_mem _ (List.mem_cons_of_mem _ (List.mem_cons_of_mem _ (List.mem_cons_of_mem _ (List.mem_cons_of_mem _ List.mem_cons_self)))))))) hw⟩) (k := fun v7 w7 hK7 => ?_)
    repeat (first | refine L.move (k := ?_) | refine L.want (k := ?_))
    refine callN hK7 (addN (b) (c) (B + Z) nb nc (by rw [hB, hZ]) vb vc) (hpre := fun _ hw => ⟨hK7.rd (List.mem_cons_of_mem _ (List.mem_cons_of_mem _ (List.mem_cons_of_mem _ (List.mem_cons_of_mem _ (List.mem_cons_of_mem _ (List.mem_cons_of_mem _ (List.mem_cons_of_mem _ (List.mem_cons_of_mem _ List.mem_cons_self)))))))) hw, hK7.rd (List.mem_cons_of_mem _ (List.mem_cons_of_mem _ (List.mem_cons_of_mem _ (List.mem_cons_of_mem _ (List.mem_cons_of_mem _ (List.mem_cons_of_mem _ (List.mem_cons_of_mem _ (List.mem_cons_of_mem _ (List.mem_cons_of_mem _ List.mem_cons_self))))))))) hw⟩) (k := fun v8 w8 hK8 => ?_)
    repeat (first | refine L.want (k := ?_))
    refine callN hK8 (addN (a) (can (B + Z)) (A + B + Z) na n6 (by rw [lv_can, ← hA]; exact (Nat.add_assoc _ _ _).symm) va v8) (hpre := fun _ hw => ⟨hK8.rd (List.mem_cons_of_mem _ (List.mem_cons_of_mem _ (List.mem_cons_of_mem _ (List.mem_cons_of_mem _ (List.mem_cons_of_mem _ (List.mem_cons_of_mem _ (List.mem_cons_of_mem _ (List.mem_cons_of_mem _ List.mem_cons_self)))))))) hw, hK8.rd List.mem_cons_self hw⟩) (k := fun v9 w9 hK9 => ?_)
    repeat (first | refine L.want (k := ?_))
    refine L.callQ (sameT (can (A + B + Z)) n5 v7 v9) (hpre := fun _ hw => ⟨hK9.rd (List.mem_cons_of_mem _ (List.mem_cons_of_mem _ List.mem_cons_self)) hw, hK9.rd List.mem_cons_self hw⟩) (k := ?_)
    repeat (first | refine L.move (k := ?_) | refine L.pickT (k := ?_) | refine L.want (k := ?_))
    refine callN hK9 (mulN (can (A * B)) (c) (A * B * Z) n4 nc (by rw [lv_can, hZ]) v4 vc) (hpre := fun _ hw => ⟨hK9.rd (List.mem_cons_of_mem _ (List.mem_cons_of_mem _ (List.mem_cons_of_mem _ (List.mem_cons_of_mem _ (List.mem_cons_of_mem _ List.mem_cons_self))))) hw, hK9.rd (List.mem_cons_of_mem _ (List.mem_cons_of_mem _ (List.mem_cons_of_mem _ (List.mem_cons_of_mem _ (List.mem_cons_of_mem _ (List.mem_cons_of_mem _ (List.mem_cons_of_mem _ (List.mem_cons_of_mem _ (List.mem_cons_of_mem _ (List.mem_cons_of_mem _ (List.mem_cons_of_mem _ List.mem_cons_self))))))))))) hw⟩) (k := fun v10 w10 hK10 => ?_)
    repeat (first | refine L.move (k := ?_) | refine L.want (k := ?_))
    refine callN hK10 (mulN (b) (c) (B * Z) nb nc (by rw [hB, hZ]) vb vc) (hpre := fun _ hw => ⟨hK10.rd (List.mem_cons_of_mem _ (List.mem_cons_of_mem _ (List.mem_cons_of_mem _ (List.mem_cons_of_mem _ (List.mem_cons_of_mem _ (List.mem_cons_of_mem _ (List.mem_cons_of_mem _ (List.mem_cons_of_mem _ (List.mem_cons_of_mem _ (List.mem_cons_of_mem _ (List.mem_cons_of_mem _ List.mem_cons_self))))))))))) hw, hK10.rd (List.mem_cons_of_mem _ (List.mem_cons_of_mem _ (List.mem_cons_of_mem _ (List.mem_cons_of_mem _ (List.mem_cons_of_mem _ (List.mem_cons_of_mem _ (List.mem_cons_of_mem _ (List.mem_cons_of_mem _ (List.mem_cons_of_mem _ (List.mem_cons_of_mem _ (List.mem_cons_of_mem _ (List.mem_cons_of_mem _ List.mem_cons_self)))))))))))) hw⟩) (k := fun v11 w11 hK11 => ?_)
    repeat (first | refine L.want (k := ?_))
    refine callN hK11 (mulN (a) (can (B * Z)) (A * B * Z) na n8 (by rw [lv_can, ← hA]; exact (Nat.mul_assoc _ _ _).symm) va v11) (hpre := fun _ hw => ⟨hK11.rd (List.mem_cons_of_mem _ (List.mem_cons_of_mem _ (List.mem_cons_of_mem _ (List.mem_cons_of_mem _ (List.mem_cons_of_mem _ (List.mem_cons_of_mem _ (List.mem_cons_of_mem _ (List.mem_cons_of_mem _ (List.mem_cons_of_mem _ (List.mem_cons_of_mem _ (List.mem_cons_of_mem _ List.mem_cons_self))))))))))) hw, hK11.rd List.mem_cons_self hw⟩) (k := fun v12 w12 hK12 => ?_)
    repeat (first | refine L.want (k := ?_))
    refine L.callQ (sameT (can (A * B * Z)) n7 v10 v12) (hpre := fun _ hw => ⟨hK12.rd (List.mem_cons_of_mem _ (List.mem_cons_of_mem _ List.mem_cons_self)) hw, hK12.rd List.mem_cons_self hw⟩) (k := ?_)
    repeat (first | refine L.move (k := ?_) | refine L.pickT (k := ?_) | refine L.want (k := ?_))
    refine callN hK12 (addN (b) (c) (B + Z) nb nc (by rw [hB, hZ]) vb vc) (hpre := fun _ hw => ⟨hK12.rd (List.mem_cons_of_mem _ (List.mem_cons_of_mem _ (List.mem_cons_of_mem _ (List.mem_cons_of_mem _ (List.mem_cons_of_mem _ (List.mem_cons_of_mem _ (List.mem_cons_of_mem _ (List.mem_cons_of_mem _ (List.mem_cons_of_mem _ (List.mem_cons_of_mem _ (List.mem_cons_of_mem _ (List.mem_cons_of_mem _ (List.mem_cons_of_mem _ List.mem_cons_self))))))))))))) hw, hK12.rd (List.mem_cons_of_mem _ (List.mem_cons_of_mem _ (List.mem_cons_of_mem _ (List.mem_cons_of_mem _ (List.mem_cons_of_mem _ (List.mem_cons_of_mem _ (List.mem_cons_of_mem _ (List.mem_cons_of_mem _ (List.mem_cons_of_mem _ (List.mem_cons_of_mem _ (List.mem_cons_of_mem _ (List.mem_cons_of_mem _ (List.mem_cons_of_mem _ (List.mem_cons_of_mem _ List.mem_cons_self)))))))))))))) hw⟩) (k := fun v13 w13 hK13 => ?_)
    repeat (first | refine L.want (k := ?_))
    refine callN hK13 (mulN (a) (can (B + Z)) (A * (B + Z)) na n6 (by rw [lv_can, hA]) va v13) (hpre := fun _ hw => ⟨hK13.rd (List.mem_cons_of_mem _ (List.mem_cons_of_mem _ (List.mem_cons_of_mem _ (List.mem_cons_of_mem _ (List.mem_cons_of_mem _ (List.mem_cons_of_mem _ (List.mem_cons_of_mem _ (List.mem_cons_of_mem _ (List.mem_cons_of_mem _ (List.mem_cons_of_mem _ (List.mem_cons_of_mem _ (List.mem_cons_of_mem _ (List.mem_cons_of_mem _ List.mem_cons_self))))))))))))) hw, hK13.rd List.mem_cons_self hw⟩) (k := fun v14 w14 hK14 => ?_)
    repeat (first | refine L.move (k := ?_) | refine L.want (k := ?_))
    refine callN hK14 (mulN (a) (c) (A * Z) na nc (by rw [hA, hZ]) va vc) (hpre := fun _ hw => ⟨hK14.rd (List.mem_cons_of_mem _ (List.mem_cons_of_mem _ (List.mem_cons_of_mem _ (List.mem_cons_of_mem _ (List.mem_cons_of_mem _ (List.mem_cons_of_mem _ (List.mem_cons_of_mem _ (List.mem_cons_of_mem _ (List.mem_cons_of_mem _ (List.mem_cons_of_mem _ (List.mem_cons_of_mem _ (List.mem_cons_of_mem _ (List.mem_cons_of_mem _ (List.mem_cons_of_mem _ List.mem_cons_self)))))))))))))) hw, hK14.rd (List.mem_cons_of_mem _ (List.mem_cons_of_mem _ (List.mem_cons_of_mem _ (List.mem_cons_of_mem _ (List.mem_cons_of_mem _ (List.mem_cons_of_mem _ (List.mem_cons_of_mem _ (List.mem_cons_of_mem _ (List.mem_cons_of_mem _ (List.mem_cons_of_mem _ (List.mem_cons_of_mem _ (List.mem_cons_of_mem _ (List.mem_cons_of_mem _ (List.mem_cons_of_mem _ (List.mem_cons_of_mem _ (List.mem_cons_of_mem _ List.mem_cons_self)))))))))))))))) hw⟩) (k := fun v15 w15 hK15 => ?_)
    repeat (first | refine L.want (k := ?_))
    refine callN hK15 (addN (can (A * B)) (can (A * Z)) (A * (B + Z)) n4 n10 (by rw [lv_can, lv_can, Nat.mul_add]) v4 v15) (hpre := fun _ hw => ⟨hK15.rd (List.mem_cons_of_mem _ (List.mem_cons_of_mem _ (List.mem_cons_of_mem _ (List.mem_cons_of_mem _ (List.mem_cons_of_mem _ (List.mem_cons_of_mem _ (List.mem_cons_of_mem _ (List.mem_cons_of_mem _ (List.mem_cons_of_mem _ (List.mem_cons_of_mem _ (List.mem_cons_of_mem _ List.mem_cons_self))))))))))) hw, hK15.rd List.mem_cons_self hw⟩) (k := fun v16 w16 hK16 => ?_)
    repeat (first | refine L.want (k := ?_))
    refine L.callQ (sameT (can (A * (B + Z))) n9 v14 v16) (hpre := fun _ hw => ⟨hK16.rd (List.mem_cons_of_mem _ (List.mem_cons_of_mem _ List.mem_cons_self)) hw, hK16.rd List.mem_cons_self hw⟩) (k := ?_)
    repeat (first | refine L.nil ?_ | refine L.assign (k := ?_) | refine L.pickT (k := ?_) | refine C.ret ?_ | refine D.seqR (h := ?_))
    (refine D.ret (vs := [_]) (RV.tmp rfl RV.nil) ?_; intro w' hw; exact Post.mk (is := []) (hK16.bk _ _ hw) List.nodup_nil rfl ⟨rfl, rfl⟩)
  · have hcm : cmpN A B = cmpN A B := rfl
    have hge : cm .geq (cmpN A B) 0 = true := cm_ge (by unfold cmpN; rw [if_neg hlt]; split <;> omega)
    repeat (first | refine C.seq ?_ | refine C.region ?_ | refine L.nil ?_ | refine D.seq ?_ | refine L.move (k := ?_) | refine L.assign (k := ?_) | refine L.cm (c := ?_) | refine C.no (h1 := ?_) | refine L.pickF (k := ?_) | refine L.want (k := ?_) | refine L.not (c := ?_) | refine C.skip ?_ | refine L.callQ (lives_S) (k := ?_) | refine L.callQ (hLt) (k := ?_) | refine L.lenR sc (c := ?_))
    refine callN hK0 (addN (a) (b) (A + B) na nb (by rw [hA, hB]) va vb) (hpre := fun _ hw => ⟨hK0.rd List.mem_cons_self hw, hK0.rd (List.mem_cons_of_mem _ List.mem_cons_self) hw⟩) (k := fun v1 w1 hK1 => ?_)
    repeat (first | refine C.seq ?_ | refine C.region ?_ | refine L.nil ?_ | refine L.move (k := ?_) | refine L.assign (k := ?_) | refine D.seqR (h := ?_))
    refine callE hK1 (subN (can (A + B)) (b) (A) (0) n1 nb (by rw [lv_can, ← hB]; omega) (by rw [lv_can, ← hB, if_neg (by omega)]) v1 vb) (hpre := fun _ hw => ⟨hK1.rd List.mem_cons_self hw, hK1.rd (List.mem_cons_of_mem _ (List.mem_cons_of_mem _ List.mem_cons_self)) hw⟩) (k := fun v2 w2 hK2 => ?_)
    repeat (first | refine C.seq ?_ | refine C.region ?_ | refine L.nil ?_ | refine L.move (k := ?_) | refine L.assign (k := ?_) | refine L.extract (c := ?_) | refine D.seqR (h := ?_))
    refine callE hK2 (subN (a) (b) (A - B) (0) na nb (by rw [hA, hB]) (by rw [← hA, ← hB, if_neg (by omega)]) va vb) (hpre := fun _ hw => ⟨hK2.rd (List.mem_cons_of_mem _ (List.mem_cons_of_mem _ List.mem_cons_self)) hw, hK2.rd (List.mem_cons_of_mem _ (List.mem_cons_of_mem _ (List.mem_cons_of_mem _ List.mem_cons_self))) hw⟩) (k := fun v3 w3 hK3 => ?_)
    repeat (first | refine C.seq ?_ | refine C.region ?_ | refine L.nil ?_ | refine L.move (k := ?_) | refine L.assign (k := ?_) | refine L.cm (c := ?_) | refine L.extract (c := ?_) | refine L.want (k := ?_) | refine D.seqR (h := ?_))
    refine L.callQ (natT (can (A)) (a) n2 na (by simp only [lv_can, ← hA]) v2 va) (hpre := fun _ hw => ⟨hK3.rd (List.mem_cons_of_mem _ List.mem_cons_self) hw, hK3.rd (List.mem_cons_of_mem _ (List.mem_cons_of_mem _ (List.mem_cons_of_mem _ List.mem_cons_self))) hw⟩) (k := ?_)
    repeat (first | refine L.move (k := ?_) | refine L.cm (c := ?_) | refine L.pickF (k := ?_) | refine L.want (k := ?_) | refine L.not (c := ?_))
    refine L.callQ (cmpS a b (cmpN A B) na nb (by rw [← hA, ← hB]) va vb) (hpre := fun _ hw => ⟨hK3.rd (List.mem_cons_of_mem _ (List.mem_cons_of_mem _ (List.mem_cons_of_mem _ List.mem_cons_self))) hw, hK3.rd (List.mem_cons_of_mem _ (List.mem_cons_of_mem _ (List.mem_cons_of_mem _ (List.mem_cons_of_mem _ List.mem_cons_self)))) hw⟩) (k := ?_)
    repeat (first | refine L.move (k := ?_) | refine L.cm (c := ?_) | refine L.pickF (k := ?_) | refine L.want (k := ?_) | refine L.neB (c := ?_))
    refine callN hK3 (addN (can (A - B)) (b) (A) n3 nb (by rw [lv_can, ← hB]; exact Nat.sub_add_cancel (by omega)) v3 vb) (hpre := fun _ hw => ⟨hK3.rd List.mem_cons_self hw, hK3.rd (List.mem_cons_of_mem _ (List.mem_cons_of_mem _ (List.mem_cons_of_mem _ (List.mem_cons_of_mem _ List.mem_cons_self)))) hw⟩) (k := fun v4 w4 hK4 => ?_)
    repeat (first | refine L.move (k := ?_) | refine L.want (k := ?_))
    refine L.callQ (natT (can (A)) (a) n2 na (by simp only [lv_can, ← hA]) v4 va) (hpre := fun _ hw => ⟨hK4.rd List.mem_cons_self hw, hK4.rd (List.mem_cons_of_mem _ (List.mem_cons_of_mem _ (List.mem_cons_of_mem _ (List.mem_cons_of_mem _ List.mem_cons_self)))) hw⟩) (k := ?_)
    repeat (first | refine C.seq ?_ | refine C.region ?_ | refine L.nil ?_ | refine L.move (k := ?_) | refine C.no (h1 := ?_) | refine L.pickT (k := ?_) | refine L.pickF (k := ?_) | refine L.want (k := ?_) | refine L.not (c := ?_) | refine C.skip ?_ | refine D.seqR (h := ?_))
    refine callN hK4 (mulN (a) (b) (A * B) na nb (by rw [hA, hB]) va vb) (hpre := fun _ hw => ⟨hK4.rd (List.mem_cons_of_mem _ (List.mem_cons_of_mem _ (List.mem_cons_of_mem _ (List.mem_cons_of_mem _ List.mem_cons_self)))) hw, hK4.rd (List.mem_cons_of_mem _ (List.mem_cons_of_mem _ (List.mem_cons_of_mem _ (List.mem_cons_of_mem _ (List.mem_cons_of_mem _ List.mem_cons_self))))) hw⟩) (k := fun v5 w5 hK5 => ?_)
    repeat (first | refine C.seq ?_ | refine C.region ?_ | refine L.nil ?_ | refine L.move (k := ?_) | refine L.assign (k := ?_) | refine D.seqR (h := ?_))
    refine L.callQ (trimT ((A + B)) n1 v1) (hpre := fun _ hw => hK5.rd (List.mem_cons_of_mem _ (List.mem_cons_of_mem _ (List.mem_cons_of_mem _ (List.mem_cons_of_mem _ List.mem_cons_self)))) hw) (k := ?_)
    repeat (first | refine L.move (k := ?_) | refine L.want (k := ?_))
    refine L.callQ (trimT ((A * B)) n4 v5) (hpre := fun _ hw => hK5.rd List.mem_cons_self hw) (k := ?_)
    repeat (first | refine L.move (k := ?_) | refine L.pickT (k := ?_) | refine L.want (k := ?_))
    refine callN hK5 (addN (b) (a) (A + B) nb na (by rw [hA, hB]; exact Nat.add_comm _ _) vb va) (hpre := fun _ hw => ⟨hK5.rd (List.mem_cons_of_mem _ (List.mem_cons_of_mem _ (List.mem_cons_of_mem _ (List.mem_cons_of_mem _ (List.mem_cons_of_mem _ (List.mem_cons_of_mem _ List.mem_cons_self)))))) hw, hK5.rd (List.mem_cons_of_mem _ (List.mem_cons_of_mem _ (List.mem_cons_of_mem _ (List.mem_cons_of_mem _ (List.mem_cons_of_mem _ List.mem_cons_self))))) hw⟩) (k := fun v6 w6 hK6 => ?_)
    repeat (first | refine L.want (k := ?_))
    refine L.callQ (sameT (can (A + B)) n1 v1 v6) (hpre := fun _ hw => ⟨hK6.rd (List.mem_cons_of_mem _ (List.mem_cons_of_mem _ (List.mem_cons_of_mem _ (List.mem_cons_of_mem _ (List.mem_cons_of_mem _ List.mem_cons_self))))) hw, hK6.rd List.mem_cons_self hw⟩) (k := ?_)
    repeat (first | refine L.move (k := ?_) | refine L.pickT (k := ?_) | refine L.want (k := ?_))
    refine callN hK6 (mulN (b) (a) (A * B) nb na (by rw [hA, hB]; exact Nat.mul_comm _ _) vb va) (hpre := fun _ hw => ⟨hK6.rd (List.mem_cons_of_mem _ (List.mem_cons_of_mem _ (List.mem_cons_of_mem _ (List.mem_cons_of_mem _ (List.mem_cons_of_mem _ (List.mem_cons_of_mem _ (List.mem_cons_of_mem _ List.mem_cons_self))))))) hw, hK6.rd (List.mem_cons_of_mem _ (List.mem_cons_of_mem _ (List.mem_cons_of_mem _ (List.mem_cons_of_mem _ (List.mem_cons_of_mem _ (List.mem_cons_of_mem _ List.mem_cons_self)))))) hw⟩) (k := fun v7 w7 hK7 => ?_)
    repeat (first | refine L.want (k := ?_))
    refine L.callQ (sameT (can (A * B)) n4 v5 v7) (hpre := fun _ hw => ⟨hK7.rd (List.mem_cons_of_mem _ (List.mem_cons_of_mem _ List.mem_cons_self)) hw, hK7.rd List.mem_cons_self hw⟩) (k := ?_)
    repeat (first | refine L.move (k := ?_) | refine L.pickT (k := ?_) | refine L.want (k := ?_))
    refine callN hK7 (addN (can (A + B)) (c) (A + B + Z) n1 nc (by rw [lv_can, hZ]) v1 vc) (hpre := fun _ hw => ⟨hK7.rd (List.mem_cons_of_mem _ (List.mem_cons_of_mem _ (List.mem_cons_of_mem _ (List.mem_cons_of_mem _ (List.mem_cons_of_mem _ (List.mem_cons_of_mem _ List.mem_cons_self)))))) hw, hK7.rd (List.mem_cons_of_mem _ (List.mem_cons_of_mem _ (List.mem_cons_of_mem _ (List.mem_cons_of_mem _ (List.mem_cons_of_mem _ (List.mem_cons_of_mem _ (List.mem_cons_of_mem _ (List.mem_cons_of_mem _ (List.mem_cons_of_mem _ List.mem_cons_self))))))))) hw⟩) (k := fun v8 w8 hK8 => ?_)
    repeat (first | refine L.move (k := ?_) | refine L.want (k := ?_))
    refine callN hK8 (addN (b) (c) (B + Z) nb nc (by rw [hB, hZ]) vb vc) (hpre := fun _ hw => ⟨hK8.rd (List.mem_cons_of_mem _ (List.mem_cons_of_mem _ (List.mem_cons_of_mem _ (List.mem_cons_of_mem _ (List.mem_cons_of_mem _ (List.mem_cons_of_mem _ (List.mem_cons_of_mem _ (List.mem_cons_of_mem _ (List.mem_cons_of_mem _ List.mem_cons_self))))))))) hw, hK8.rd (List.mem_cons_of_mem _ (List.mem_cons_of_mem _ (List.mem_cons_of_mem _ (List.mem_cons_of_mem _ (List.mem_cons_of_mem _ (List.mem_cons_of_mem _ (List.mem_cons_of_mem _ (List.mem_cons_of_mem _ (List.mem_cons_of_mem _ (List.mem_cons_of_mem _ List.mem_cons_self)))))))))) hw⟩) (k := fun v9 w9 hK9 => ?_)
    repeat (first | refine L.want (k := ?_))
    refine callN hK9 (addN (a) (can (B + Z)) (A + B + Z) na n6 (by rw [lv_can, ← hA]; exact (Nat.add_assoc _ _ _).symm) va v9) (hpre := fun _ hw => ⟨hK9.rd (List.mem_cons_of_mem _ (List.mem_cons_of_mem _ (List.mem_cons_of_mem _ (List.mem_cons_of_mem _ (List.mem_cons_of_mem _ (List.mem_cons_of_mem _ (List.mem_cons_of_mem _ (List.mem_cons_of_mem _ (List.mem_cons_of_mem _ List.mem_cons_self))))))))) hw, hK9.rd List.mem_cons_self hw⟩) (k := fun v10 w10 hK10 => ?_)
    repeat (first | refine L.want (k := ?_))
    refine L.callQ (sameT (can (A + B + Z)) n5 v8 v10) (hpre := fun _ hw => ⟨hK10.rd (List.mem_cons_of_mem _ (List.mem_cons_of_mem _ List.mem_cons_self)) hw, hK10.rd List.mem_cons_self hw⟩) (k := ?_)
    repeat (first | refine L.move (k := ?_) | refine L.pickT (k := ?_) | refine L.want (k := ?_))
    refine callN hK10 (mulN (can (A * B)) (c) (A * B * Z) n4 nc (by rw [lv_can, hZ]) v5 vc) (hpre := fun _ hw => ⟨hK10.rd (List.mem_cons_of_mem _ (List.mem_cons_of_mem _ (List.mem_cons_of_mem _ (List.mem_cons_of_mem _ (List.mem_cons_of_mem _ List.mem_cons_self))))) hw, hK10.rd (List.mem_cons_of_mem _ (List.mem_cons_of_mem _ (List.mem_cons_of_mem _ (List.mem_cons_of_mem _ (List.mem_cons_of_mem _ (List.mem_cons_of_mem _ (List.mem_cons_of_mem _ (List.mem_cons_of_mem _ (List.mem_cons_of_mem _ (List.mem_cons_of_mem _ (List.mem_cons_of_mem _ (List.mem_cons_of_mem _ List.mem_cons_self)))))))))))) hw⟩) (k := fun v11 w11 hK11 => ?_)
    repeat (first | refine L.move (k := ?_) | refine L.want (k := ?_))
    refine callN hK11 (mulN (b) (c) (B * Z) nb nc (by rw [hB, hZ]) vb vc) (hpre := fun _ hw => ⟨hK11.rd (List.mem_cons_of_mem _ (List.mem_cons_of_mem _ (List.mem_cons_of_mem _ (List.mem_cons_of_mem _ (List.mem_cons_of_mem _ (List.mem_cons_of_mem _ (List.mem_cons_of_mem _ (List.mem_cons_of_mem _ (List.mem_cons_of_mem _ (List.mem_cons_of_mem _ (List.mem_cons_of_mem _ (List.mem_cons_of_mem _ List.mem_cons_self)))))))))))) hw, hK11.rd (List.mem_cons_of_mem _ (List.mem_cons_of_mem _ (List.mem_cons_of_mem _ (List.mem_cons_of_mem _ (List.mem_cons_of_mem _ (List.mem_cons_of_mem _ (List.mem_cons_of_mem _ (List.mem_cons_of_mem _ (List.mem_cons_of_mem _ (List.mem_cons_of_mem _ (List.mem_cons_of_mem _ (List.mem_cons_of_mem _ (List.mem_cons_of_mem _ List.mem_cons_self))))))))))))) hw⟩) (k := fun v12 w12 hK12 => ?_)
    repeat (first | refine L.want (k := ?_))
    refine callN hK12 (mulN (a) (can (B * Z)) (A * B * Z) na n8 (by rw [lv_can, ← hA]; exact (Nat.mul_assoc _ _ _).symm) va v12) (hpre := fun _ hw => ⟨hK12.rd (List.mem_cons_of_mem _ (List.mem_cons_of_mem _ (List.mem_cons_of_mem _ (List.mem_cons_of_mem _ (List.mem_cons_of_mem _ (List.mem_cons_of_mem _ (List.mem_cons_of_mem _ (List.mem_cons_of_mem _ (List.mem_cons_of_mem _ (List.mem_cons_of_mem _ (List.mem_cons_of_mem _ (List.mem_cons_of_mem _ List.mem_cons_self)))))))))))) hw, hK12.rd List.mem_cons_self hw⟩) (k := fun v13 w13 hK13 => ?_)
    repeat (first | refine L.want (k := ?_))
    refine L.callQ (sameT (can (A * B * Z)) n7 v11 v13) (hpre := fun _ hw => ⟨hK13.rd (List.mem_cons_of_mem _ (List.mem_cons_of_mem _ List.mem_cons_self)) hw, hK13.rd List.mem_cons_self hw⟩) (k := ?_)
    repeat (first | refine L.move (k := ?_) | refine L.pickT (k := ?_) | refine L.want (k := ?_))
    refine callN hK13 (addN (b) (c) (B + Z) nb nc (by rw [hB, hZ]) vb vc) (hpre := fun _ hw => ⟨hK13.rd (List.mem_cons_of_mem _ (List.mem_cons_of_mem _ (List.mem_cons_of_mem _ (List.mem_cons_of_mem _ (List.mem_cons_of_mem _ (List.mem_cons_of_mem _ (List.mem_cons_of_mem _ (List.mem_cons_of_mem _ (List.mem_cons_of_mem _ (List.mem_cons_of_mem _ (List.mem_cons_of_mem _ (List.mem_cons_of_mem _ (List.mem_cons_of_mem _ (List.mem_cons_of_mem _ List.mem_cons_self)))))))))))))) hw, hK13.rd (List.mem_cons_of_mem _ (List.mem_cons_of_mem _ (List.mem_cons_of_mem _ (List.mem_cons_of_mem _ (List.mem_cons_of_mem _ (List.mem_cons_of_mem _ (List.mem_cons_of_mem _ (List.mem_cons_of_mem _ (List.mem_cons_of_mem _ (List.mem_cons_of_mem _ (List.mem_cons_of_mem _ (List.mem_cons_of_mem _ (List.mem_cons_of_mem _ (List.mem_cons_of_mem _ (List.mem_cons_of_mem _ List.mem_cons_self))))))))))))))) hw⟩) (k := fun v14 w14 hK14 => ?_)
    repeat (first | refine L.want (k := ?_))
    refine callN hK14 (mulN (a) (can (B + Z)) (A * (B + Z)) na n6 (by rw [lv_can, hA]) va v14) (hpre := fun _ hw => ⟨hK14.rd (List.mem_cons_of_mem _ (List.mem_cons_of_mem _ (List.mem_cons_of_mem _ (List.mem_cons_of_mem _ (List.mem_cons_of_mem _ (List.mem_cons_of_mem _ (List.mem_cons_of_mem _ (List.mem_cons_of_mem _ (List.mem_cons_of_mem _ (List.mem_cons_of_mem _ (List.mem_cons_of_mem _ (List.mem_cons_of_mem _ (List.mem_cons_of_mem _ (List.mem_cons_of_mem _ List.mem_cons_self)))))))))))))) hw, hK14.rd List.mem_cons_self hw⟩) (k := fun v15 w15 hK15 => ?_)
    repeat (first | refine L.move (k := ?_) | refine L.want (k := ?_))
    refine callN hK15 (mulN (a) (c) (A * Z) na nc (by rw [hA, hZ]) va vc) (hpre := fun _ hw => ⟨hK15.rd (List.mem_cons_of_mem _ (List.mem_cons_of_mem _ (List.mem_cons_of_mem _ (List.mem_cons_of_mem _ (List.mem_cons_of_mem _ (List.mem_cons_of_mem _ (List.mem_cons_of_mem _ (List.mem_cons_of_mem _ (List.mem_cons_of_mem _ (List.mem_cons_of_mem _ (List.mem_cons_of_mem _ (List.mem_cons_of_mem _ (List.mem_cons_of_mem _ (List.mem_cons_of_mem _ (List.mem_cons_of_mem _ List.mem_cons_self))))))))))))))) hw, hK15.rd (List.mem_cons_of_mem _ (List.mem_cons_of_mem _ (List.mem_cons_of_mem _ (List.mem_cons_of_mem _ (List.mem_cons_of_mem _ (List.mem_cons_of_mem _ (List.mem_cons_of_mem _ (List.mem_cons_of_mem _ (List.mem_cons_of_mem _ (List.mem_cons_of_mem _ (List.mem_cons_of_mem _ (List.mem_cons_of_mem _ (List.mem_cons_of_mem _ (List.mem_cons_of_mem _ (List.mem_cons_of_mem _ (List.mem_cons_of_mem _ (List.mem_cons_of_mem _ List.mem_cons_self))))))))))))))))) hw⟩) (k := fun v16 w16 hK16 => ?_)
    repeat (first | refine L.want (k := ?_))
    refine callN hK16 (addN (can (A * B)) (can (A * Z)) (A * (B + Z)) n4 n10 (by rw [lv_can, lv_can, Nat.mul_add]) v5 v16) (hpre := fun _ hw => ⟨hK16.rd (List.mem_cons_of_mem _ (List.mem_cons_of_mem _ (List.mem_cons_of_mem _ (List.mem_cons_of_mem _ (List.mem_cons_of_mem _ (List.mem_cons_of_mem _ (List.mem_cons_of_mem _ (List.mem_cons_of_mem _ (List.mem_cons_of_mem _ (List.mem_cons_of_mem _ (List.mem_cons_of_mem _ List.mem_cons_self))))))))))) hw, hK16.rd List.mem_cons_self hw⟩) (k := fun v17 w17 hK17 => ?_)
    repeat (first | refine L.want (k := ?_))
    refine L.callQ (sameT (can (A * (B + Z))) n9 v15 v17) (hpre := fun _ hw => ⟨hK17.rd (List.mem_cons_of_mem _ (List.mem_cons_of_mem _ List.mem_cons_self)) hw, hK17.rd List.mem_cons_self hw⟩) (k := ?_)
    repeat (first | refine L.nil ?_ | refine L.assign (k := ?_) | refine L.pickT (k := ?_) | refine C.ret ?_ | refine D.seqR (h := ?_))
    (refine D.ret (vs := [_]) (RV.tmp rfl RV.nil) ?_; intro w' hw; exact Post.mk (is := []) (hK17.bk _ _ hw) List.nodup_nil rfl ⟨rfl, rfl⟩)
theorem _root_.Go.Proofs.YtpemoeincepilaaDoor.natLaws_walk (va : Value) (a : List Nat) (vb : Value) (b : List Nat) (vc : Value) (c : List Nat) (w : World) (ha : Nats w va a) (hb : Nats w vb b) (hc : Nats w vc c) :
    Calls Tryd.prog 6 #[va, vb, vc] w fun e w' => e = .returned (.bool true) ∧ Below w.heap.size w w' :=
  (laws_S a b c ha.1 hb.1 hc.1 ha.2.1 hb.2.1 hc.2.1 va vb vc).true w ⟨ha.2.2, hb.2.2, hc.2.2⟩
end Go.Proofs.YtpemoeincepilaaDoor.Nt
