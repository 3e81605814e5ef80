/- The law NatShifts: its walk. Conditions: limbs are numbers of 64 bits. -/
import Derived.Test.YtpemoeincepilaaDoorNtZ
set_option linter.unusedVariables false
set_option linter.unusedSimpArgs false
namespace Go.Proofs.YtpemoeincepilaaDoor.Nt
open Go Go.RowKit SL
attribute [local irreducible] SL.L SL.C SL.D SL.N SL.H SL.QL SL.QW SL.QP

theorem negI {P : Program} {ops : Array Oper} {Q : Exit → Act → World → Prop} {s : St} {E : Env} {M : Hp} {rest : List Oper} {d t : Nat} {pos : String} {af : Array Edge} {x : Operand} {k : IntKind} {n z : Int} {T : TypeId} (hz : k.wrap (-n) = z) (hn : Nat.blt d s.n = true := by exact rfl) (hx : ev E x = some (.int k n) := by exact rfl) (c : L P ops Q rest s ((d, .int k z) :: E) M) : L P ops Q (⟨some d, .unOp .neg T x, t, pos, af, none⟩ :: rest) s E M :=
  L.val hn (fun e w hs => ⟨w, by
    refine run_value ?_
    rw [hs.ev hx, ← hz]; simp [Op.unary, Op.intArith], hs.at_⟩) c
theorem lv_up (k : Nat) (a : List Nat) : lv (List.replicate k 0 ++ a) = lv a * 18446744073709551616 ^ k := by
  rw [lv_app, lv_zero (fun x hx => List.eq_of_mem_replicate hx), List.length_replicate, Nat.zero_add, Nat.mul_comm]
theorem okL_up {a : List Nat} (k : Nat) (ha : okL a) : okL (List.replicate k 0 ++ a) := okL_app (fun x hx => by rw [List.eq_of_mem_replicate hx]; omega) ha
theorem sm_pow {k m n : Nat} (h : sm m n) : sm (m + k) (n * 18446744073709551616 ^ k) := by
  unfold sm at *
  rw [Nat.pow_add]
  exact Nat.mul_lt_mul_of_pos_right h (pow_posB k)
theorem bits_sm {k n : Nat} (h : sm k n) : bitsN n ≤ 64 * k := Nat.le_trans (bitsN_can_le n) (Nat.mul_le_mul_left _ (sm_len h))
theorem natB (l m : List Nat) (x : Bool) (hl : nt l) (hm : nt m) (hx : decide (lv l = lv m) = x) (v u : Value) : Ctr Tryd.prog 13 [v, u] [] (fun w => RdN w [] v l ∧ RdN w [] u m) (is (.bool x) []) := by
  subst hx; exact natural_S l m hl.1 hm.1 (by have := hl.2; omega) (by have := hm.2; omega) v u
set_option maxRecDepth 100000 in
set_option maxHeartbeats 40000000 in
theorem shifts_S (a b : List Nat) (oa : okL a) (ob' : okL b) (ma : a.length ≤ maxLen) (mb : b.length ≤ maxLen) (va vb : Value) (n : Int) (hn : I64' n) :
    Ctr Tryd.prog 4 [va, vb, .int .i64 n] [] (fun w => RdN w [] va a ∧ RdN w [] vb b) (is (.bool true) []) := by
  refine Ctr.enter Tryd.func4 Tryd.ntmps4 rfl rfl (fun w hr => ?_)
  obtain ⟨ra, rb⟩ := hr
  have sa := ra.1
  have sb := rb.1
  have hK0 : Kp w w [(va, a), (vb, b)] := Kp.init (fun p hp => by
    simp only [List.mem_cons, List.not_mem_nil, or_false] at hp
    rcases hp with rfl | rfl
    · exact ra
    · exact rb)
  have hLt := light_S va vb a.length b.length sa sb ma
  by_cases h1 : a.length ≤ 12 ∧ b.length ≤ 12
  case neg =>
    rw [decide_eq_false h1] at hLt
    repeat (first | refine C.seq ?_ | refine C.region ?_ | refine L.nil ?_ | refine D.seq ?_ | refine L.move (k := ?_) | refine L.assign (k := ?_) | refine C.yes (h1 := ?_) | refine C.no (h1 := ?_) | refine L.not (c := ?_) | refine C.ret ?_ | refine D.thenRet ?_ | refine C.skip ?_ | refine L.callQ (lives_S) (k := ?_) | refine L.callQ (hLt) (k := ?_))
    (refine D.ret (vs := [_]) (RV.tmp rfl RV.nil) ?_; intro w' hw; exact Post.mk (is := []) hw List.nodup_nil rfl ⟨rfl, rfl⟩)
  rw [decide_eq_true h1] at hLt
  have na : nt a := ⟨oa, by omega⟩
  have nb : nt b := ⟨ob', by omega⟩
  have xa : sm 12 (lv a) := sm_lv oa h1.1
  have xb : sm 12 (lv b) := sm_lv ob' h1.2
  have hPk := pick_S n 12 (by omega) hn
  obtain ⟨k, hk, hk12⟩ : ∃ k : Nat, n % 12 = (k : Int) ∧ k < 12 := ⟨(n % 12).toNat, by omega, by omega⟩
  rw [hk] at hPk
  obtain ⟨A, hA⟩ : ∃ A, A = lv a := ⟨_, rfl⟩
  obtain ⟨B, hB⟩ : ∃ B, B = lv b := ⟨_, rfl⟩
  rw [← hA] at xa
  rw [← hB] at xb
  obtain ⟨u1, hu1⟩ : ∃ u1, u1 = List.replicate k 0 ++ [1] := ⟨_, rfl⟩
  obtain ⟨u2, hu2⟩ : ∃ u2, u2 = List.replicate k 0 ++ a := ⟨_, rfl⟩
  have nu1 : nt u1 := ⟨by rw [hu1]; exact okL_up k (ok1 (by omega)), by rw [hu1, List.length_append, List.length_replicate]; simp; omega⟩
  have nu2 : nt u2 := ⟨by rw [hu2]; exact okL_up k oa, by rw [hu2, List.length_append, List.length_replicate]; omega⟩
  have vu1 : lv u1 = 18446744073709551616 ^ k := by rw [hu1, lv_up]; simp [lv]
  have vu2 : lv u2 = A * 18446744073709551616 ^ k := by rw [hu2, lv_up, hA]
  have lu1 : u1.length = k + 1 := by rw [hu1, List.length_append, List.length_replicate]; rfl
  have lu2 : u2.length = k + a.length := by rw [hu2, List.length_append, List.length_replicate]
  have np := nt_can (sm_pow (k := k) xa) (by omega)
  have nq := nt_can (sm_mul xa xb) (by omega)
  have ck : k ≤ maxLen := by unfold maxLen; omega
  have ba := bits_sm xa
  have bb := bits_sm xb
  have bp := bits_sm (sm_pow (k := k) xa)
  have hbp : A ≠ 0 → bitsN (A * 18446744073709551616 ^ k) = bitsN A + 64 * k := bits_up k
  have b0 : ∀ {x : Nat}, x ≠ 0 → bitsN x ≠ 0 := fun h e => by have := (bitsN_le h).2; omega
  have zG : ∀ bz : Nat, osG 1 k (List.replicate k (Value.int .u64 0)) (some (bz, List.replicate k (Value.int .u64 0), k)) := fun bz => ⟨by simp, Nat.le_refl _, ck, by simp⟩
  by_cases hz : A = 0
  · have e0 : bitsN A = 0 := by rw [hz]; rfl
    have e1 : cm .gtr (bitsN A : Int) 0 = false := by rw [e0]; rfl
    have e2 : cm .eql (bitsN A : Int) 0 = true := by rw [e0]; rfl
    have e3 : cm .eql ((0 : Nat) : Int) 0 = true := rfl
    repeat (first | refine C.seq ?_ | refine C.region ?_ | refine L.nil ?_ | refine D.seq ?_ | refine L.move (k := ?_) | refine L.assign (k := ?_) | refine C.no (h1 := ?_) | refine L.not (c := ?_) | refine C.skip ?_ | refine L.buildS (c := fun _ => ?_) | refine L.callQ (lives_S) (k := ?_) | refine L.callQ (hLt) (k := ?_) | refine L.callQ (hPk) (k := ?_) | (refine L.makeZ (m := k) rfl (by omega) ck (c := ?_); intro bm))
    rename_i nb1
    refine L.appendU [_] (L2 := []) (y := some (bm, List.replicate k (Value.int .u64 0), k)) (m := k) (u := .slice (some ⟨nb1, 0, none⟩) 1 1) (k := 1) (news := [.int .u64 1]) (zG bm) rfl (fun w hw => Rd.own (hw.holds _ List.mem_cons_self) (by simp) (Nat.le_refl _) 1 rfl) rfl (u64s_ones [1]) (by unfold maxLen; omega) (by omega) (c := fun y1 hG1 _ => ?_)
    have hG1' : osG 1 u1.length (u64s u1) y1 := by rw [lu1, hu1, u64s_app, ← u64s_zero]; exact hG1
    rw [← lu1]
    refine keepG hK0 hG1' (fun x hx => List.mem_append_right _ hx) (fun w1 hK1 => ?_)
    repeat (first | refine C.seq ?_ | refine C.region ?_ | refine L.nil ?_ | refine L.move (k := ?_) | refine L.assign (k := ?_) | refine D.seqR (h := ?_))
    refine callN hK1 (mulN a u1 (A * 18446744073709551616 ^ k) na nu1 (by rw [vu1, hA]) va (osV u1.length y1)) (hpre := fun _ hw => ⟨hK1.rd (List.mem_cons_of_mem _ List.mem_cons_self) hw, hK1.rd List.mem_cons_self hw⟩) (k := fun v2 w2 hK2 => ?_)
    repeat (first | refine C.seq ?_ | refine C.region ?_ | refine L.nil ?_ | refine L.move (k := ?_) | refine L.assign (k := ?_) | refine D.seqR (h := ?_) | (refine L.makeZ (m := k) rfl (by omega) ck (c := ?_); intro bm2))
    refine L.appendU [] (L2 := []) (y := some (bm2, List.replicate k (Value.int .u64 0), k)) (m := k) (u := va) (k := a.length) (news := u64s a) (zG bm2) rfl (fun w hw => hK2.rd (List.mem_cons_of_mem _ (List.mem_cons_of_mem _ List.mem_cons_self)) hw) (by rw [u64s_len, Nat.mul_one]) (u64s_ones a) (by unfold maxLen; omega) (by omega) (c := fun y2 hG2 _ => ?_)
    have hG2' : osG 1 u2.length (u64s u2) y2 := by rw [lu2, hu2, u64s_app, ← u64s_zero]; exact hG2
    rw [← lu2]
    refine keepG hK2 hG2' (fun x hx => hx) (fun w3 hK3 => ?_)
    repeat (first | refine C.seq ?_ | refine C.region ?_ | refine L.nil ?_ | refine L.move (k := ?_) | refine L.assign (k := ?_) | refine D.seqR (h := ?_))
    refine callN hK3 (mulN a b (A * B) na nb (by rw [hA, hB]) va vb) (hpre := fun _ hw => ⟨hK3.rd (List.mem_cons_of_mem _ (List.mem_cons_of_mem _ (List.mem_cons_of_mem _ List.mem_cons_self))) hw, hK3.rd (List.mem_cons_of_mem _ (List.mem_cons_of_mem _ (List.mem_cons_of_mem _ (List.mem_cons_of_mem _ List.mem_cons_self)))) hw⟩) (k := fun v4 w4 hK4 => ?_)
    repeat (first | refine C.seq ?_ | refine C.region ?_ | refine L.nil ?_ | refine L.move (k := ?_) | refine L.assign (k := ?_) | refine D.seqR (h := ?_))
    refine L.callQ (bitsS a (bitsN A) na (by rw [hA]) va) (hpre := fun _ hw => hK4.rd (List.mem_cons_of_mem _ (List.mem_cons_of_mem _ (List.mem_cons_of_mem _ (List.mem_cons_of_mem _ List.mem_cons_self)))) hw) (k := ?_)
    repeat (first | refine L.move (k := ?_))
    refine L.callQ (bitsS b (bitsN B) nb (by rw [hB]) vb) (hpre := fun _ hw => hK4.rd (List.mem_cons_of_mem _ (List.mem_cons_of_mem _ (List.mem_cons_of_mem _ (List.mem_cons_of_mem _ (List.mem_cons_of_mem _ List.mem_cons_self))))) hw) (k := ?_)
    repeat (first | refine C.seq ?_ | refine C.region ?_ | refine L.nil ?_ | refine D.seq ?_ | refine L.move (k := ?_) | refine L.assign (k := ?_))
    refine L.callQ (natT (can (A * 18446744073709551616 ^ k)) u2 np nu2 (by rw [lv_can, vu2]) v2 (osV u2.length y2)) (hpre := fun _ hw => ⟨hK4.rd (List.mem_cons_of_mem _ (List.mem_cons_of_mem _ List.mem_cons_self)) hw, hK4.rd (List.mem_cons_of_mem _ List.mem_cons_self) hw⟩) (k := ?_)
    repeat (first | refine C.seq ?_ | refine C.region ?_ | refine L.nil ?_ | refine D.seq ?_ | refine L.move (k := ?_) | refine L.cm (c := ?_) | refine C.yes (h1 := ?_) | refine C.no (h1 := ?_) | refine L.pickT (k := ?_) | refine L.pickF (k := ?_) | refine L.want (k := ?_) | refine L.pass (k := ?_) | refine L.not (c := ?_) | refine C.skip ?_)
    refine L.callQ (bitsS (can (A * B)) 0 nq (by rw [lv_can, hz, Nat.zero_mul]; rfl) v4) (hpre := fun _ hw => hK4.rd List.mem_cons_self hw) (k := ?_)
    repeat (first | refine L.nil ?_ | refine D.seq ?_ | refine L.assign (k := ?_) | refine L.cm (c := ?_) | refine C.ret ?_ | refine D.thenRet ?_)
    (refine D.ret (vs := [_]) (RV.tmp rfl RV.nil) ?_; intro w' hw; exact Post.mk (is := []) (hK4.bk _ _ hw) List.nodup_nil rfl ⟨rfl, rfl⟩)
  have hz2 := b0 hz
  have e1 : cm .gtr (bitsN A : Int) 0 = true := cm_gt (by omega)
  have e2 : cm .eql (bitsN A : Int) 0 = false := cm_no (by omega)
  have e3 : ar .mul .i64 64 (k : Int) = ((64 * k : Nat) : Int) := i64_mulL (a := 64) (by omega)
  have e4 : ar .add .i64 (bitsN A : Int) ((64 * k : Nat) : Int) = ((bitsN A + 64 * k : Nat) : Int) := i64_addL (by omega)
  have e5 : cm .neq ((bitsN A + 64 * k : Nat) : Int) ((bitsN A + 64 * k : Nat) : Int) = false := cm_ne' rfl
  by_cases hy : B = 0
  · have e0 : bitsN B = 0 := by rw [hy]; rfl
    have e6 : cm .eql (bitsN B : Int) 0 = true := by rw [e0]; rfl
    have e7 : cm .eql ((0 : Nat) : Int) 0 = true := rfl
    repeat (first | refine C.seq ?_ | refine C.region ?_ | refine L.nil ?_ | refine D.seq ?_ | refine L.move (k := ?_) | refine L.assign (k := ?_) | refine C.no (h1 := ?_) | refine L.not (c := ?_) | refine C.skip ?_ | refine L.buildS (c := fun _ => ?_) | refine L.callQ (lives_S) (k := ?_) | refine L.callQ (hLt) (k := ?_) | refine L.callQ (hPk) (k := ?_) | (refine L.makeZ (m := k) rfl (by omega) ck (c := ?_); intro bm))
    rename_i nb1
    refine L.appendU [_] (L2 := []) (y := some (bm, List.replicate k (Value.int .u64 0), k)) (m := k) (u := .slice (some ⟨nb1, 0, none⟩) 1 1) (k := 1) (news := [.int .u64 1]) (zG bm) rfl (fun w hw => Rd.own (hw.holds _ List.mem_cons_self) (by simp) (Nat.le_refl _) 1 rfl) rfl (u64s_ones [1]) (by unfold maxLen; omega) (by omega) (c := fun y1 hG1 _ => ?_)
    have hG1' : osG 1 u1.length (u64s u1) y1 := by rw [lu1, hu1, u64s_app, ← u64s_zero]; exact hG1
    rw [← lu1]
    refine keepG hK0 hG1' (fun x hx => List.mem_append_right _ hx) (fun w1 hK1 => ?_)
    repeat (first | refine C.seq ?_ | refine C.region ?_ | refine L.nil ?_ | refine L.move (k := ?_) | refine L.assign (k := ?_) | refine D.seqR (h := ?_))
    refine callN hK1 (mulN a u1 (A * 18446744073709551616 ^ k) na nu1 (by rw [vu1, hA]) va (osV u1.length y1)) (hpre := fun _ hw => ⟨hK1.rd (List.mem_cons_of_mem _ List.mem_cons_self) hw, hK1.rd List.mem_cons_self hw⟩) (k := fun v2 w2 hK2 => ?_)
    repeat (first | refine C.seq ?_ | refine C.region ?_ | refine L.nil ?_ | refine L.move (k := ?_) | refine L.assign (k := ?_) | refine D.seqR (h := ?_) | (refine L.makeZ (m := k) rfl (by omega) ck (c := ?_); intro bm2))
    refine L.appendU [] (L2 := []) (y := some (bm2, List.replicate k (Value.int .u64 0), k)) (m := k) (u := va) (k := a.length) (news := u64s a) (zG bm2) rfl (fun w hw => hK2.rd (List.mem_cons_of_mem _ (List.mem_cons_of_mem _ List.mem_cons_self)) hw) (by rw [u64s_len, Nat.mul_one]) (u64s_ones a) (by unfold maxLen; omega) (by omega) (c := fun y2 hG2 _ => ?_)
    have hG2' : osG 1 u2.length (u64s u2) y2 := by rw [lu2, hu2, u64s_app, ← u64s_zero]; exact hG2
    rw [← lu2]
    refine keepG hK2 hG2' (fun x hx => hx) (fun w3 hK3 => ?_)
    repeat (first | refine C.seq ?_ | refine C.region ?_ | refine L.nil ?_ | refine L.move (k := ?_) | refine L.assign (k := ?_) | refine D.seqR (h := ?_))
    refine callN hK3 (mulN a b (A * B) na nb (by rw [hA, hB]) va vb) (hpre := fun _ hw => ⟨hK3.rd (List.mem_cons_of_mem _ (List.mem_cons_of_mem _ (List.mem_cons_of_mem _ List.mem_cons_self))) hw, hK3.rd (List.mem_cons_of_mem _ (List.mem_cons_of_mem _ (List.mem_cons_of_mem _ (List.mem_cons_of_mem _ List.mem_cons_self)))) hw⟩) (k := fun v4 w4 hK4 => ?_)
    repeat (first | refine C.seq ?_ | refine C.region ?_ | refine L.nil ?_ | refine L.move (k := ?_) | refine L.assign (k := ?_) | refine D.seqR (h := ?_))
    refine L.callQ (bitsS a (bitsN A) na (by rw [hA]) va) (hpre := fun _ hw => hK4.rd (List.mem_cons_of_mem _ (List.mem_cons_of_mem _ (List.mem_cons_of_mem _ (List.mem_cons_of_mem _ List.mem_cons_self)))) hw) (k := ?_)
    repeat (first | refine L.move (k := ?_))
    refine L.callQ (bitsS b (bitsN B) nb (by rw [hB]) vb) (hpre := fun _ hw => hK4.rd (List.mem_cons_of_mem _ (List.mem_cons_of_mem _ (List.mem_cons_of_mem _ (List.mem_cons_of_mem _ (List.mem_cons_of_mem _ List.mem_cons_self))))) hw) (k := ?_)
    repeat (first | refine C.seq ?_ | refine C.region ?_ | refine L.nil ?_ | refine D.seq ?_ | refine L.move (k := ?_) | refine L.assign (k := ?_))
    refine L.callQ (natT (can (A * 18446744073709551616 ^ k)) u2 np nu2 (by rw [lv_can, vu2]) v2 (osV u2.length y2)) (hpre := fun _ hw => ⟨hK4.rd (List.mem_cons_of_mem _ (List.mem_cons_of_mem _ List.mem_cons_self)) hw, hK4.rd (List.mem_cons_of_mem _ List.mem_cons_self) hw⟩) (k := ?_)
    repeat (first | refine L.move (k := ?_) | refine L.cm (c := ?_) | refine L.want (k := ?_) | refine L.not (c := ?_))
    refine L.callQ (bitsS (can (A * 18446744073709551616 ^ k)) (bitsN A + 64 * k) np (by rw [lv_can]; exact hbp hz) v2) (hpre := fun _ hw => hK4.rd (List.mem_cons_of_mem _ (List.mem_cons_of_mem _ List.mem_cons_self)) hw) (k := ?_)
    repeat (first | refine C.seq ?_ | refine C.region ?_ | refine L.nil ?_ | refine D.seq ?_ | refine L.move (k := ?_) | refine L.cm (c := ?_) | refine L.ar (c := ?_) | refine C.yes (h1 := ?_) | refine C.no (h1 := ?_) | refine L.pickT (k := ?_) | refine L.pickF (k := ?_) | refine L.want (k := ?_) | refine C.skip ?_)
    refine L.callQ (bitsS (can (A * B)) 0 nq (by rw [lv_can, hy, Nat.mul_zero]; rfl) v4) (hpre := fun _ hw => hK4.rd List.mem_cons_self hw) (k := ?_)
    repeat (first | refine L.nil ?_ | refine D.seq ?_ | refine L.assign (k := ?_) | refine L.cm (c := ?_) | refine C.ret ?_ | refine D.thenRet ?_)
    (refine D.ret (vs := [_]) (RV.tmp rfl RV.nil) ?_; intro w' hw; exact Post.mk (is := []) (hK4.bk _ _ hw) List.nodup_nil rfl ⟨rfl, rfl⟩)
  have hy2 := b0 hy
  have e6 : cm .eql (bitsN B : Int) 0 = false := cm_no (by omega)
  have hng : IntKind.i64.wrap (-(cmpN B A)) = cmpN A B := by
    rw [← cmp_neg A B, IntKind.wrap_i64]; unfold cmpN; split <;> first | omega | (split <;> omega)
  have e8 : cm .eql (cmpN A B) (cmpN A B) = true := cm_yes rfl
  have e9 : cm .eql (cmpN A B) 0 = decide (A = B) := by
    by_cases h : A = B
    · rw [decide_eq_true h]; exact cm_yes (cmp_zero.2 h)
    · rw [decide_eq_false h]; exact cm_no (fun e => h (cmp_zero.1 e))
  have e10 : (decide (A = B) == decide (A = B)) = true := beq_self_eq_true _
  have e11 : ar .add .i64 (bitsN A : Int) (bitsN B : Int) = ((bitsN A + bitsN B : Nat) : Int) := i64_addL (by omega)
  have e12 : ar .sub .i64 ((bitsN A + bitsN B : Nat) : Int) 1 = ((bitsN A + bitsN B - 1 : Nat) : Int) := i64_subL (b := 1) (by omega) (by omega)
  have e13 : cm .eql ((bitsN A + bitsN B : Nat) : Int) ((bitsN A + bitsN B : Nat) : Int) = true := cm_yes rfl
  have e14 : cm .eql ((bitsN A + bitsN B - 1 : Nat) : Int) ((bitsN A + bitsN B - 1 : Nat) : Int) = true := cm_yes rfl
  have e15 : cm .eql ((bitsN A + bitsN B - 1 : Nat) : Int) ((bitsN A + bitsN B : Nat) : Int) = false := cm_no (by omega)
  rcases Nat.lt_trichotomy (bitsN A) (bitsN B) with hb | hb | hb
  · have g1 : cm .eql (bitsN A : Int) (bitsN B : Int) = false := cm_no (by omega)
    have g2 : cm .lss (cmpN A B) 0 = true := cm_lo ((cmp_bits (by omega)).2 hb)
    have g3 : cm .lss (bitsN A : Int) (bitsN B : Int) = true := cm_lo (by omega)
    rcases bits_mul hz hy with hbq | hbq
    · repeat (first | refine C.seq ?_ | refine C.region ?_ | refine L.nil ?_ | refine D.seq ?_ | refine L.move (k := ?_) | refine L.assign (k := ?_) | refine C.no (h1 := ?_) | refine L.not (c := ?_) | refine C.skip ?_ | refine L.buildS (c := fun _ => ?_) | refine L.callQ (lives_S) (k := ?_) | refine L.callQ (hLt) (k := ?_) | refine L.callQ (hPk) (k := ?_) | (refine L.makeZ (m := k) rfl (by omega) ck (c := ?_); intro bm))
      rename_i nb1
      refine L.appendU [_] (L2 := []) (y := some (bm, List.replicate k (Value.int .u64 0), k)) (m := k) (u := .slice (some ⟨nb1, 0, none⟩) 1 1) (k := 1) (news := [.int .u64 1]) (zG bm) rfl (fun w hw => Rd.own (hw.holds _ List.mem_cons_self) (by simp) (Nat.le_refl _) 1 rfl) rfl (u64s_ones [1]) (by unfold maxLen; omega) (by omega) (c := fun y1 hG1 _ => ?_)
      have hG1' : osG 1 u1.length (u64s u1) y1 := by rw [lu1, hu1, u64s_app, ← u64s_zero]; exact hG1
      rw [← lu1]
      refine keepG hK0 hG1' (fun x hx => List.mem_append_right _ hx) (fun w1 hK1 => ?_)
      repeat (first | refine C.seq ?_ | refine C.region ?_ | refine L.nil ?_ | refine L.move (k := ?_) | refine L.assign (k := ?_) | refine D.seqR (h := ?_))
      refine callN hK1 (mulN a u1 (A * 18446744073709551616 ^ k) na nu1 (by rw [vu1, hA]) va (osV u1.length y1)) (hpre := fun _ hw => ⟨hK1.rd (List.mem_cons_of_mem _ List.mem_cons_self) hw, hK1.rd List.mem_cons_self hw⟩) (k := fun v2 w2 hK2 => ?_)
      repeat (first | refine C.seq ?_ | refine C.region ?_ | refine L.nil ?_ | refine L.move (k := ?_) | refine L.assign (k := ?_) | refine D.seqR (h := ?_) | (refine L.makeZ (m := k) rfl (by omega) ck (c := ?_); intro bm2))
      refine L.appendU [] (L2 := []) (y := some (bm2, List.replicate k (Value.int .u64 0), k)) (m := k) (u := va) (k := a.length) (news := u64s a) (zG bm2) rfl (fun w hw => hK2.rd (List.mem_cons_of_mem _ (List.mem_cons_of_mem _ List.mem_cons_self)) hw) (by rw [u64s_len, Nat.mul_one]) (u64s_ones a) (by unfold maxLen; omega) (by omega) (c := fun y2 hG2 _ => ?_)
      have hG2' : osG 1 u2.length (u64s u2) y2 := by rw [lu2, hu2, u64s_app, ← u64s_zero]; exact hG2
      rw [← lu2]
      refine keepG hK2 hG2' (fun x hx => hx) (fun w3 hK3 => ?_)
      repeat (first | refine C.seq ?_ | refine C.region ?_ | refine L.nil ?_ | refine L.move (k := ?_) | refine L.assign (k := ?_) | refine D.seqR (h := ?_))
      refine callN hK3 (mulN a b (A * B) na nb (by rw [hA, hB]) va vb) (hpre := fun _ hw => ⟨hK3.rd (List.mem_cons_of_mem _ (List.mem_cons_of_mem _ (List.mem_cons_of_mem _ List.mem_cons_self))) hw, hK3.rd (List.mem_cons_of_mem _ (List.mem_cons_of_mem _ (List.mem_cons_of_mem _ (List.mem_cons_of_mem _ List.mem_cons_self)))) hw⟩) (k := fun v4 w4 hK4 => ?_)
      repeat (first | refine C.seq ?_ | refine C.region ?_ | refine L.nil ?_ | refine L.move (k := ?_) | refine L.assign (k := ?_) | refine D.seqR (h := ?_))
      refine L.callQ (bitsS a (bitsN A) na (by rw [hA]) va) (hpre := fun _ hw => hK4.rd (List.mem_cons_of_mem _ (List.mem_cons_of_mem _ (List.mem_cons_of_mem _ (List.mem_cons_of_mem _ List.mem_cons_self)))) hw) (k := ?_)
      repeat (first | refine L.move (k := ?_))
      refine L.callQ (bitsS b (bitsN B) nb (by rw [hB]) vb) (hpre := fun _ hw => hK4.rd (List.mem_cons_of_mem _ (List.mem_cons_of_mem _ (List.mem_cons_of_mem _ (List.mem_cons_of_mem _ (List.mem_cons_of_mem _ List.mem_cons_self))))) hw) (k := ?_)
      repeat (first | refine C.seq ?_ | refine C.region ?_ | refine L.nil ?_ | refine D.seq ?_ | refine L.move (k := ?_) | refine L.assign (k := ?_))
      refine L.callQ (natT (can (A * 18446744073709551616 ^ k)) u2 np nu2 (by rw [lv_can, vu2]) v2 (osV u2.length y2)) (hpre := fun _ hw => ⟨hK4.rd (List.mem_cons_of_mem _ (List.mem_cons_of_mem _ List.mem_cons_self)) hw, hK4.rd (List.mem_cons_of_mem _ List.mem_cons_self) hw⟩) (k := ?_)
      repeat (first | refine L.move (k := ?_) | refine L.cm (c := ?_) | refine L.want (k := ?_) | refine L.not (c := ?_))
      refine L.callQ (bitsS (can (A * 18446744073709551616 ^ k)) (bitsN A + 64 * k) np (by rw [lv_can]; exact hbp hz) v2) (hpre := fun _ hw => hK4.rd (List.mem_cons_of_mem _ (List.mem_cons_of_mem _ List.mem_cons_self)) hw) (k := ?_)
      repeat (first | refine C.seq ?_ | refine C.region ?_ | refine L.nil ?_ | refine D.seq ?_ | refine L.move (k := ?_) | refine L.cm (c := ?_) | refine L.ar (c := ?_) | refine C.no (h1 := ?_) | refine L.pickT (k := ?_) | refine L.pickF (k := ?_) | refine L.want (k := ?_) | refine C.skip ?_)
      refine L.callQ (cmpS a b (cmpN A B) na nb (by rw [← hA, ← hB]) va vb) (hpre := fun _ hw => ⟨hK4.rd (List.mem_cons_of_mem _ (List.mem_cons_of_mem _ (List.mem_cons_of_mem _ (List.mem_cons_of_mem _ List.mem_cons_self)))) hw, hK4.rd (List.mem_cons_of_mem _ (List.mem_cons_of_mem _ (List.mem_cons_of_mem _ (List.mem_cons_of_mem _ (List.mem_cons_of_mem _ List.mem_cons_self))))) hw⟩) (k := ?_)
      repeat (first | refine C.seq ?_ | refine C.region ?_ | refine L.nil ?_ | refine D.seq ?_ | refine L.move (k := ?_) | refine L.assign (k := ?_))
      refine L.callQ (bitsS (can (A * B)) (bitsN A + bitsN B) nq (by rw [lv_can]; exact hbq) v4) (hpre := fun _ hw => hK4.rd List.mem_cons_self hw) (k := ?_)
      repeat (first | refine L.move (k := ?_) | refine L.cm (c := ?_) | refine L.ar (c := ?_) | refine L.pickT (k := ?_) | refine L.pickF (k := ?_) | refine L.want (k := ?_) | refine L.pass (k := ?_) | refine L.eqB (c := ?_) | refine negI hng (c := ?_))
      refine L.callQ (cmpS b a (cmpN B A) nb na (by rw [← hA, ← hB]) vb va) (hpre := fun _ hw => ⟨hK4.rd (List.mem_cons_of_mem _ (List.mem_cons_of_mem _ (List.mem_cons_of_mem _ (List.mem_cons_of_mem _ (List.mem_cons_of_mem _ List.mem_cons_self))))) hw, hK4.rd (List.mem_cons_of_mem _ (List.mem_cons_of_mem _ (List.mem_cons_of_mem _ (List.mem_cons_of_mem _ List.mem_cons_self)))) hw⟩) (k := ?_)
      repeat (first | refine L.move (k := ?_) | refine L.cm (c := ?_) | refine L.pickT (k := ?_) | refine L.want (k := ?_) | refine negI hng (c := ?_))
      refine L.callQ (natB a b (decide (A = B)) na nb (by rw [hA, hB]) va vb) (hpre := fun _ hw => ⟨hK4.rd (List.mem_cons_of_mem _ (List.mem_cons_of_mem _ (List.mem_cons_of_mem _ (List.mem_cons_of_mem _ List.mem_cons_self)))) hw, hK4.rd (List.mem_cons_of_mem _ (List.mem_cons_of_mem _ (List.mem_cons_of_mem _ (List.mem_cons_of_mem _ (List.mem_cons_of_mem _ List.mem_cons_self))))) hw⟩) (k := ?_)
      repeat (first | refine L.nil ?_ | refine D.seq ?_ | refine L.assign (k := ?_) | refine L.pickT (k := ?_) | refine L.want (k := ?_) | refine C.ret ?_ | refine L.eqB (c := ?_))
      (refine D.ret (vs := [_]) (RV.tmp rfl RV.nil) ?_; intro w' hw; exact Post.mk (is := []) (hK4.bk _ _ hw) List.nodup_nil rfl ⟨rfl, rfl⟩)
    · repeat (first | refine C.seq ?_ | refine C.region ?_ | refine L.nil ?_ | refine D.seq ?_ | refine L.move (k := ?_) | refine L.assign (k := ?_) | refine C.no (h1 := ?_) | refine L.not (c := ?_) | refine C.skip ?_ | refine L.buildS (c := fun _ => ?_) | refine L.callQ (lives_S) (k := ?_) | refine L.callQ (hLt) (k := ?_) | refine L.callQ (hPk) (k := ?_) | (refine L.makeZ (m := k) rfl (by omega) ck (c := ?_); intro bm))
      rename_i nb1
      refine L.appendU [_] (L2 := []) (y := some (bm, List.replicate k (Value.int .u64 0), k)) (m := k) (u := .slice (some ⟨nb1, 0, none⟩) 1 1) (k := 1) (news := [.int .u64 1]) (zG bm) rfl (fun w hw => Rd.own (hw.holds _ List.mem_cons_self) (by simp) (Nat.le_refl _) 1 rfl) rfl (u64s_ones [1]) (by unfold maxLen; omega) (by omega) (c := fun y1 hG1 _ => ?_)
      have hG1' : osG 1 u1.length (u64s u1) y1 := by rw [lu1, hu1, u64s_app, ← u64s_zero]; exact hG1
      rw [← lu1]
      refine keepG hK0 hG1' (fun x hx => List.mem_append_right _ hx) (fun w1 hK1 => ?_)
      repeat (first | refine C.seq ?_ | refine C.region ?_ | refine L.nil ?_ | refine L.move (k := ?_) | refine L.assign (k := ?_) | refine D.seqR (h := ?_))
      refine callN hK1 (mulN a u1 (A * 18446744073709551616 ^ k) na nu1 (by rw [vu1, hA]) va (osV u1.length y1)) (hpre := fun _ hw => ⟨hK1.rd (List.mem_cons_of_mem _ List.mem_cons_self) hw, hK1.rd List.mem_cons_self hw⟩) (k := fun v2 w2 hK2 => ?_)
      repeat (first | refine C.seq ?_ | refine C.region ?_ | refine L.nil ?_ | refine L.move (k := ?_) | refine L.assign (k := ?_) | refine D.seqR (h := ?_) | (refine L.makeZ (m := k) rfl (by omega) ck (c := ?_); intro bm2))
      refine L.appendU [] (L2 := []) (y := some (bm2, List.replicate k (Value.int .u64 0), k)) (m := k) (u := va) (k := a.length) (news := u64s a) (zG bm2) rfl (fun w hw => hK2.rd (List.mem_cons_of_mem _ (List.mem_cons_of_mem _ List.mem_cons_self)) hw) (by rw [u64s_len, Nat.mul_one]) (u64s_ones a) (by unfold maxLen; omega) (by omega) (c := fun y2 hG2 _ => ?_)
      have hG2' : osG 1 u2.length (u64s u2) y2 := by rw [lu2, hu2, u64s_app, ← u64s_zero]; exact hG2
      rw [← lu2]
      refine keepG hK2 hG2' (fun x hx => hx) (fun w3 hK3 => ?_)
      repeat (first | refine C.seq ?_ | refine C.region ?_ | refine L.nil ?_ | refine L.move (k := ?_) | refine L.assign (k := ?_) | refine D.seqR (h := ?_))
      refine callN hK3 (mulN a b (A * B) na nb (by rw [hA, hB]) va vb) (hpre := fun _ hw => ⟨hK3.rd (List.mem_cons_of_mem _ (List.mem_cons_of_mem _ (List.mem_cons_of_mem _ List.mem_cons_self))) hw, hK3.rd (List.mem_cons_of_mem _ (List.mem_cons_of_mem _ (List.mem_cons_of_mem _ (List.mem_cons_of_mem _ List.mem_cons_self)))) hw⟩) (k := fun v4 w4 hK4 => ?_)
      repeat (first | refine C.seq ?_ | refine C.region ?_ | refine L.nil ?_ | refine L.move (k := ?_) | refine L.assign (k := ?_) | refine D.seqR (h := ?_))
      refine L.callQ (bitsS a (bitsN A) na (by rw [hA]) va) (hpre := fun _ hw => hK4.rd (List.mem_cons_of_mem _ (List.mem_cons_of_mem _ (List.mem_cons_of_mem _ (List.mem_cons_of_mem _ List.mem_cons_self)))) hw) (k := ?_)
      repeat (first | refine L.move (k := ?_))
      refine L.callQ (bitsS b (bitsN B) nb (by rw [hB]) vb) (hpre := fun _ hw => hK4.rd (List.mem_cons_of_mem _ (List.mem_cons_of_mem _ (List.mem_cons_of_mem _ (List.mem_cons_of_mem _ (List.mem_cons_of_mem _ List.mem_cons_self))))) hw) (k := ?_)
      repeat (first | refine C.seq ?_ | refine C.region ?_ | refine L.nil ?_ | refine D.seq ?_ | refine L.move (k := ?_) | refine L.assign (k := ?_))
      refine L.callQ (natT (can (A * 18446744073709551616 ^ k)) u2 np nu2 (by rw [lv_can, vu2]) v2 (osV u2.length y2)) (hpre := fun _ hw => ⟨hK4.rd (List.mem_cons_of_mem _ (List.mem_cons_of_mem _ List.mem_cons_self)) hw, hK4.rd (List.mem_cons_of_mem _ List.mem_cons_self) hw⟩) (k := ?_)
      repeat (first | refine L.move (k := ?_) | refine L.cm (c := ?_) | refine L.want (k := ?_) | refine L.not (c := ?_))
      refine L.callQ (bitsS (can (A * 18446744073709551616 ^ k)) (bitsN A + 64 * k) np (by rw [lv_can]; exact hbp hz) v2) (hpre := fun _ hw => hK4.rd (List.mem_cons_of_mem _ (List.mem_cons_of_mem _ List.mem_cons_self)) hw) (k := ?_)
      repeat (first | refine C.seq ?_ | refine C.region ?_ | refine L.nil ?_ | refine D.seq ?_ | refine L.move (k := ?_) | refine L.cm (c := ?_) | refine L.ar (c := ?_) | refine C.no (h1 := ?_) | refine L.pickT (k := ?_) | refine L.pickF (k := ?_) | refine L.want (k := ?_) | refine C.skip ?_)
      refine L.callQ (cmpS a b (cmpN A B) na nb (by rw [← hA, ← hB]) va vb) (hpre := fun _ hw => ⟨hK4.rd (List.mem_cons_of_mem _ (List.mem_cons_of_mem _ (List.mem_cons_of_mem _ (List.mem_cons_of_mem _ List.mem_cons_self)))) hw, hK4.rd (List.mem_cons_of_mem _ (List.mem_cons_of_mem _ (List.mem_cons_of_mem _ (List.mem_cons_of_mem _ (List.mem_cons_of_mem _ List.mem_cons_self))))) hw⟩) (k := ?_)
      repeat (first | refine C.seq ?_ | refine C.region ?_ | refine L.nil ?_ | refine D.seq ?_ | refine L.move (k := ?_) | refine L.assign (k := ?_))
      refine L.callQ (bitsS (can (A * B)) (bitsN A + bitsN B - 1) nq (by rw [lv_can]; exact hbq) v4) (hpre := fun _ hw => hK4.rd List.mem_cons_self hw) (k := ?_)
      repeat (first | refine L.move (k := ?_) | refine L.cm (c := ?_) | refine L.ar (c := ?_) | refine L.want (k := ?_) | refine negI hng (c := ?_))
      refine L.callQ (bitsS (can (A * B)) (bitsN A + bitsN B - 1) nq (by rw [lv_can]; exact hbq) v4) (hpre := fun _ hw => hK4.rd List.mem_cons_self hw) (k := ?_)
      repeat (first | refine L.move (k := ?_) | refine L.cm (c := ?_) | refine L.ar (c := ?_) | refine L.pickT (k := ?_) | refine L.pickF (k := ?_) | refine L.want (k := ?_) | refine L.eqB (c := ?_))
      refine L.callQ (cmpS b a (cmpN B A) nb na (by rw [← hA, ← hB]) vb va) (hpre := fun _ hw => ⟨hK4.rd (List.mem_cons_of_mem _ (List.mem_cons_of_mem _ (List.mem_cons_of_mem _ (List.mem_cons_of_mem _ (List.mem_cons_of_mem _ List.mem_cons_self))))) hw, hK4.rd (List.mem_cons_of_mem _ (List.mem_cons_of_mem _ (List.mem_cons_of_mem _ (List.mem_cons_of_mem _ List.mem_cons_self)))) hw⟩) (k := ?_)
      repeat (first | refine L.move (k := ?_) | refine L.cm (c := ?_) | refine L.pickT (k := ?_) | refine L.want (k := ?_) | refine negI hng (c := ?_))
      refine L.callQ (natB a b (decide (A = B)) na nb (by rw [hA, hB]) va vb) (hpre := fun _ hw => ⟨hK4.rd (List.mem_cons_of_mem _ (List.mem_cons_of_mem _ (List.mem_cons_of_mem _ (List.mem_cons_of_mem _ List.mem_cons_self)))) hw, hK4.rd (List.mem_cons_of_mem _ (List.mem_cons_of_mem _ (List.mem_cons_of_mem _ (List.mem_cons_of_mem _ (List.mem_cons_of_mem _ List.mem_cons_self))))) hw⟩) (k := ?_)
      repeat (first | refine L.nil ?_ | refine D.seq ?_ | refine L.assign (k := ?_) | refine L.pickT (k := ?_) | refine L.want (k := ?_) | refine C.ret ?_ | refine L.eqB (c := ?_))
      (refine D.ret (vs := [_]) (RV.tmp rfl RV.nil) ?_; intro w' hw; exact Post.mk (is := []) (hK4.bk _ _ hw) List.nodup_nil rfl ⟨rfl, rfl⟩)
  · have g1 : cm .eql (bitsN A : Int) (bitsN B : Int) = true := cm_yes (by omega)
    rcases bits_mul hz hy with hbq | hbq
    · repeat (first | refine C.seq ?_ | refine C.region ?_ | refine L.nil ?_ | refine D.seq ?_ | refine L.move (k := ?_) | refine L.assign (k := ?_) | refine C.no (h1 := ?_) | refine L.not (c := ?_) | refine C.skip ?_ | refine L.buildS (c := fun _ => ?_) | refine L.callQ (lives_S) (k := ?_) | refine L.callQ (hLt) (k := ?_) | refine L.callQ (hPk) (k := ?_) | (refine L.makeZ (m := k) rfl (by omega) ck (c := ?_); intro bm))
      rename_i nb1
      refine L.appendU [_] (L2 := []) (y := some (bm, List.replicate k (Value.int .u64 0), k)) (m := k) (u := .slice (some ⟨nb1, 0, none⟩) 1 1) (k := 1) (news := [.int .u64 1]) (zG bm) rfl (fun w hw => Rd.own (hw.holds _ List.mem_cons_self) (by simp) (Nat.le_refl _) 1 rfl) rfl (u64s_ones [1]) (by unfold maxLen; omega) (by omega) (c := fun y1 hG1 _ => ?_)
      have hG1' : osG 1 u1.length (u64s u1) y1 := by rw [lu1, hu1, u64s_app, ← u64s_zero]; exact hG1
      rw [← lu1]
      refine keepG hK0 hG1' (fun x hx => List.mem_append_right _ hx) (fun w1 hK1 => ?_)
      repeat (first | refine C.seq ?_ | refine C.region ?_ | refine L.nil ?_ | refine L.move (k := ?_) | refine L.assign (k := ?_) | refine D.seqR (h := ?_))
      refine callN hK1 (mulN a u1 (A * 18446744073709551616 ^ k) na nu1 (by rw [vu1, hA]) va (osV u1.length y1)) (hpre := fun _ hw => ⟨hK1.rd (List.mem_cons_of_mem _ List.mem_cons_self) hw, hK1.rd List.mem_cons_self hw⟩) (k := fun v2 w2 hK2 => ?_)
      repeat (first | refine C.seq ?_ | refine C.region ?_ | refine L.nil ?_ | refine L.move (k := ?_) | refine L.assign (k := ?_) | refine D.seqR (h := ?_) | (refine L.makeZ (m := k) rfl (by omega) ck (c := ?_); intro bm2))
      refine L.appendU [] (L2 := []) (y := some (bm2, List.replicate k (Value.int .u64 0), k)) (m := k) (u := va) (k := a.length) (news := u64s a) (zG bm2) rfl (fun w hw => hK2.rd (List.mem_cons_of_mem _ (List.mem_cons_of_mem _ List.mem_cons_self)) hw) (by rw [u64s_len, Nat.mul_one]) (u64s_ones a) (by unfold maxLen; omega) (by omega) (c := fun y2 hG2 _ => ?_)
      have hG2' : osG 1 u2.length (u64s u2) y2 := by rw [lu2, hu2, u64s_app, ← u64s_zero]; exact hG2
      rw [← lu2]
      refine keepG hK2 hG2' (fun x hx => hx) (fun w3 hK3 => ?_)
      repeat (first | refine C.seq ?_ | refine C.region ?_ | refine L.nil ?_ | refine L.move (k := ?_) | refine L.assign (k := ?_) | refine D.seqR (h := ?_))
      refine callN hK3 (mulN a b (A * B) na nb (by rw [hA, hB]) va vb) (hpre := fun _ hw => ⟨hK3.rd (List.mem_cons_of_mem _ (List.mem_cons_of_mem _ (List.mem_cons_of_mem _ List.mem_cons_self))) hw, hK3.rd (List.mem_cons_of_mem _ (List.mem_cons_of_mem _ (List.mem_cons_of_mem _ (List.mem_cons_of_mem _ List.mem_cons_self)))) hw⟩) (k := fun v4 w4 hK4 => ?_)
      repeat (first | refine C.seq ?_ | refine C.region ?_ | refine L.nil ?_ | refine L.move (k := ?_) | refine L.assign (k := ?_) | refine D.seqR (h := ?_))
      refine L.callQ (bitsS a (bitsN A) na (by rw [hA]) va) (hpre := fun _ hw => hK4.rd (List.mem_cons_of_mem _ (List.mem_cons_of_mem _ (List.mem_cons_of_mem _ (List.mem_cons_of_mem _ List.mem_cons_self)))) hw) (k := ?_)
      repeat (first | refine L.move (k := ?_))
      refine L.callQ (bitsS b (bitsN B) nb (by rw [hB]) vb) (hpre := fun _ hw => hK4.rd (List.mem_cons_of_mem _ (List.mem_cons_of_mem _ (List.mem_cons_of_mem _ (List.mem_cons_of_mem _ (List.mem_cons_of_mem _ List.mem_cons_self))))) hw) (k := ?_)
      repeat (first | refine C.seq ?_ | refine C.region ?_ | refine L.nil ?_ | refine D.seq ?_ | refine L.move (k := ?_) | refine L.assign (k := ?_))
      refine L.callQ (natT (can (A * 18446744073709551616 ^ k)) u2 np nu2 (by rw [lv_can, vu2]) v2 (osV u2.length y2)) (hpre := fun _ hw => ⟨hK4.rd (List.mem_cons_of_mem _ (List.mem_cons_of_mem _ List.mem_cons_self)) hw, hK4.rd (List.mem_cons_of_mem _ List.mem_cons_self) hw⟩) (k := ?_)
      repeat (first | refine L.move (k := ?_) | refine L.cm (c := ?_) | refine L.want (k := ?_) | refine L.not (c := ?_))
      refine L.callQ (bitsS (can (A * 18446744073709551616 ^ k)) (bitsN A + 64 * k) np (by rw [lv_can]; exact hbp hz) v2) (hpre := fun _ hw => hK4.rd (List.mem_cons_of_mem _ (List.mem_cons_of_mem _ List.mem_cons_self)) hw) (k := ?_)
      repeat (first | refine C.seq ?_ | refine C.region ?_ | refine L.nil ?_ | refine D.seq ?_ | refine L.move (k := ?_) | refine L.cm (c := ?_) | refine L.ar (c := ?_) | refine C.no (h1 := ?_) | refine L.pickT (k := ?_) | refine L.pickF (k := ?_) | refine L.want (k := ?_) | refine C.skip ?_)
      refine L.callQ (cmpS a b (cmpN A B) na nb (by rw [← hA, ← hB]) va vb) (hpre := fun _ hw => ⟨hK4.rd (List.mem_cons_of_mem _ (List.mem_cons_of_mem _ (List.mem_cons_of_mem _ (List.mem_cons_of_mem _ List.mem_cons_self)))) hw, hK4.rd (List.mem_cons_of_mem _ (List.mem_cons_of_mem _ (List.mem_cons_of_mem _ (List.mem_cons_of_mem _ (List.mem_cons_of_mem _ List.mem_cons_self))))) hw⟩) (k := ?_)
      repeat (first | refine C.seq ?_ | refine C.region ?_ | refine L.nil ?_ | refine D.seq ?_ | refine L.move (k := ?_) | refine L.assign (k := ?_))
      refine L.callQ (bitsS (can (A * B)) (bitsN A + bitsN B) nq (by rw [lv_can]; exact hbq) v4) (hpre := fun _ hw => hK4.rd List.mem_cons_self hw) (k := ?_)
      repeat (first | refine L.move (k := ?_) | refine L.cm (c := ?_) | refine L.ar (c := ?_) | refine L.pickT (k := ?_) | refine L.want (k := ?_) | refine L.pass (k := ?_) | refine negI hng (c := ?_))
      refine L.callQ (cmpS b a (cmpN B A) nb na (by rw [← hA, ← hB]) vb va) (hpre := fun _ hw => ⟨hK4.rd (List.mem_cons_of_mem _ (List.mem_cons_of_mem _ (List.mem_cons_of_mem _ (List.mem_cons_of_mem _ (List.mem_cons_of_mem _ List.mem_cons_self))))) hw, hK4.rd (List.mem_cons_of_mem _ (List.mem_cons_of_mem _ (List.mem_cons_of_mem _ (List.mem_cons_of_mem _ List.mem_cons_self)))) hw⟩) (k := ?_)
      repeat (first | refine L.move (k := ?_) | refine L.cm (c := ?_) | refine L.pickT (k := ?_) | refine L.want (k := ?_) | refine negI hng (c := ?_))
      refine L.callQ (natB a b (decide (A = B)) na nb (by rw [hA, hB]) va vb) (hpre := fun _ hw => ⟨hK4.rd (List.mem_cons_of_mem _ (List.mem_cons_of_mem _ (List.mem_cons_of_mem _ (List.mem_cons_of_mem _ List.mem_cons_self)))) hw, hK4.rd (List.mem_cons_of_mem _ (List.mem_cons_of_mem _ (List.mem_cons_of_mem _ (List.mem_cons_of_mem _ (List.mem_cons_of_mem _ List.mem_cons_self))))) hw⟩) (k := ?_)
      repeat (first | refine L.nil ?_ | refine D.seq ?_ | refine L.assign (k := ?_) | refine L.pickT (k := ?_) | refine L.want (k := ?_) | refine C.ret ?_ | refine L.eqB (c := ?_))
      (refine D.ret (vs := [_]) (RV.tmp rfl RV.nil) ?_; intro w' hw; exact Post.mk (is := []) (hK4.bk _ _ hw) List.nodup_nil rfl ⟨rfl, rfl⟩)
    · repeat (first | refine C.seq ?_ | refine C.region ?_ | refine L.nil ?_ | refine D.seq ?_ | refine L.move (k := ?_) | refine L.assign (k := ?_) | refine C.no (h1 := ?_) | refine L.not (c := ?_) | refine C.skip ?_ | refine L.buildS (c := fun _ => ?_) | refine L.callQ (lives_S) (k := ?_) | refine L.callQ (hLt) (k := ?_) | refine L.callQ (hPk) (k := ?_) | (refine L.makeZ (m := k) rfl (by omega) ck (c := ?_); intro bm))
      rename_i nb1
      refine L.appendU [_] (L2 := []) (y := some (bm, List.replicate k (Value.int .u64 0), k)) (m := k) (u := .slice (some ⟨nb1, 0, none⟩) 1 1) (k := 1) (news := [.int .u64 1]) (zG bm) rfl (fun w hw => Rd.own (hw.holds _ List.mem_cons_self) (by simp) (Nat.le_refl _) 1 rfl) rfl (u64s_ones [1]) (by unfold maxLen; omega) (by omega) (c := fun y1 hG1 _ => ?_)
      have hG1' : osG 1 u1.length (u64s u1) y1 := by rw [lu1, hu1, u64s_app, ← u64s_zero]; exact hG1
      rw [← lu1]
      refine keepG hK0 hG1' (fun x hx => List.mem_append_right _ hx) (fun w1 hK1 => ?_)
      repeat (first | refine C.seq ?_ | refine C.region ?_ | refine L.nil ?_ | refine L.move (k := ?_) | refine L.assign (k := ?_) | refine D.seqR (h := ?_))
      refine callN hK1 (mulN a u1 (A * 18446744073709551616 ^ k) na nu1 (by rw [vu1, hA]) va (osV u1.length y1)) (hpre := fun _ hw => ⟨hK1.rd (List.mem_cons_of_mem _ List.mem_cons_self) hw, hK1.rd List.mem_cons_self hw⟩) (k := fun v2 w2 hK2 => ?_)
      repeat (first | refine C.seq ?_ | refine C.region ?_ | refine L.nil ?_ | refine L.move (k := ?_) | refine L.assign (k := ?_) | refine D.seqR (h := ?_) | (refine L.makeZ (m := k) rfl (by omega) ck (c := ?_); intro bm2))
      refine L.appendU [] (L2 := []) (y := some (bm2, List.replicate k (Value.int .u64 0), k)) (m := k) (u := va) (k := a.length) (news := u64s a) (zG bm2) rfl (fun w hw => hK2.rd (List.mem_cons_of_mem _ (List.mem_cons_of_mem _ List.mem_cons_self)) hw) (by rw [u64s_len, Nat.mul_one]) (u64s_ones a) (by unfold maxLen; omega) (by omega) (c := fun y2 hG2 _ => ?_)
      have hG2' : osG 1 u2.length (u64s u2) y2 := by rw [lu2, hu2, u64s_app, ← u64s_zero]; exact hG2
      rw [← lu2]
      refine keepG hK2 hG2' (fun x hx => hx) (fun w3 hK3 => ?_)
      repeat (first | refine C.seq ?_ | refine C.region ?_ | refine L.nil ?_ | refine L.move (k := ?_) | refine L.assign (k := ?_) | refine D.seqR (h := ?_))
      refine callN hK3 (mulN a b (A * B) na nb (by rw [hA, hB]) va vb) (hpre := fun _ hw => ⟨hK3.rd (List.mem_cons_of_mem _ (List.mem_cons_of_mem _ (List.mem_cons_of_mem _ List.mem_cons_self))) hw, hK3.rd (List.mem_cons_of_mem _ (List.mem_cons_of_mem _ (List.mem_cons_of_mem _ (List.mem_cons_of_mem _ List.mem_cons_self)))) hw⟩) (k := fun v4 w4 hK4 => ?_)
      repeat (first | refine C.seq ?_ | refine C.region ?_ | refine L.nil ?_ | refine L.move (k := ?_) | refine L.assign (k := ?_) | refine D.seqR (h := ?_))
      refine L.callQ (bitsS a (bitsN A) na (by rw [hA]) va) (hpre := fun _ hw => hK4.rd (List.mem_cons_of_mem _ (List.mem_cons_of_mem _ (List.mem_cons_of_mem _ (List.mem_cons_of_mem _ List.mem_cons_self)))) hw) (k := ?_)
      repeat (first | refine L.move (k := ?_))
      refine L.callQ (bitsS b (bitsN B) nb (by rw [hB]) vb) (hpre := fun _ hw => hK4.rd (List.mem_cons_of_mem _ (List.mem_cons_of_mem _ (List.mem_cons_of_mem _ (List.mem_cons_of_mem _ (List.mem_cons_of_mem _ List.mem_cons_self))))) hw) (k := ?_)
      repeat (first | refine C.seq ?_ | refine C.region ?_ | refine L.nil ?_ | refine D.seq ?_ | refine L.move (k := ?_) | refine L.assign (k := ?_))
      refine L.callQ (natT (can (A * 18446744073709551616 ^ k)) u2 np nu2 (by rw [lv_can, vu2]) v2 (osV u2.length y2)) (hpre := fun _ hw => ⟨hK4.rd (List.mem_cons_of_mem _ (List.mem_cons_of_mem _ List.mem_cons_self)) hw, hK4.rd (List.mem_cons_of_mem _ List.mem_cons_self) hw⟩) (k := ?_)
      repeat (first | refine L.move (k := ?_) | refine L.cm (c := ?_) | refine L.want (k := ?_) | refine L.not (c := ?_))
      refine L.callQ (bitsS (can (A * 18446744073709551616 ^ k)) (bitsN A + 64 * k) np (by rw [lv_can]; exact hbp hz) v2) (hpre := fun _ hw => hK4.rd (List.mem_cons_of_mem _ (List.mem_cons_of_mem _ List.mem_cons_self)) hw) (k := ?_)
      repeat (first | refine C.seq ?_ | refine C.region ?_ | refine L.nil ?_ | refine D.seq ?_ | refine L.move (k := ?_) | refine L.cm (c := ?_) | refine L.ar (c := ?_) | refine C.no (h1 := ?_) | refine L.pickT (k := ?_) | refine L.pickF (k := ?_) | refine L.want (k := ?_) | refine C.skip ?_)
      refine L.callQ (cmpS a b (cmpN A B) na nb (by rw [← hA, ← hB]) va vb) (hpre := fun _ hw => ⟨hK4.rd (List.mem_cons_of_mem _ (List.mem_cons_of_mem _ (List.mem_cons_of_mem _ (List.mem_cons_of_mem _ List.mem_cons_self)))) hw, hK4.rd (List.mem_cons_of_mem _ (List.mem_cons_of_mem _ (List.mem_cons_of_mem _ (List.mem_cons_of_mem _ (List.mem_cons_of_mem _ List.mem_cons_self))))) hw⟩) (k := ?_)
      repeat (first | refine C.seq ?_ | refine C.region ?_ | refine L.nil ?_ | refine D.seq ?_ | refine L.move (k := ?_) | refine L.assign (k := ?_))
      refine L.callQ (bitsS (can (A * B)) (bitsN A + bitsN B - 1) nq (by rw [lv_can]; exact hbq) v4) (hpre := fun _ hw => hK4.rd List.mem_cons_self hw) (k := ?_)
      repeat (first | refine L.move (k := ?_) | refine L.cm (c := ?_) | refine L.ar (c := ?_) | refine L.want (k := ?_) | refine negI hng (c := ?_))
      refine L.callQ (bitsS (can (A * B)) (bitsN A + bitsN B - 1) nq (by rw [lv_can]; exact hbq) v4) (hpre := fun _ hw => hK4.rd List.mem_cons_self hw) (k := ?_)
      repeat (first | refine L.move (k := ?_) | refine L.cm (c := ?_) | refine L.ar (c := ?_) | refine L.pickT (k := ?_) | refine L.pickF (k := ?_) | refine L.want (k := ?_) | refine L.pass (k := ?_))
      refine L.callQ (cmpS b a (cmpN B A) nb na (by rw [← hA, ← hB]) vb va) (hpre := fun _ hw => ⟨hK4.rd (List.mem_cons_of_mem _ (List.mem_cons_of_mem _ (List.mem_cons_of_mem _ (List.mem_cons_of_mem _ (List.mem_cons_of_mem _ List.mem_cons_self))))) hw, hK4.rd (List.mem_cons_of_mem _ (List.mem_cons_of_mem _ (List.mem_cons_of_mem _ (List.mem_cons_of_mem _ List.mem_cons_self)))) hw⟩) (k := ?_)
      repeat (first | refine L.move (k := ?_) | refine L.cm (c := ?_) | refine L.pickT (k := ?_) | refine L.want (k := ?_) | refine negI hng (c := ?_))
      refine L.callQ (natB a b (decide (A = B)) na nb (by rw [hA, hB]) va vb) (hpre := fun _ hw => ⟨hK4.rd (List.mem_cons_of_mem _ (List.mem_cons_of_mem _ (List.mem_cons_of_mem _ (List.mem_cons_of_mem _ List.mem_cons_self)))) hw, hK4.rd (List.mem_cons_of_mem _ (List.mem_cons_of_mem _ (List.mem_cons_of_mem _ (List.mem_cons_of_mem _ (List.mem_cons_of_mem _ List.mem_cons_self))))) hw⟩) (k := ?_)
      repeat (first | refine L.nil ?_ | refine D.seq ?_ | refine L.assign (k := ?_) | refine L.pickT (k := ?_) | refine L.want (k := ?_) | refine C.ret ?_ | refine L.eqB (c := ?_))
      (refine D.ret (vs := [_]) (RV.tmp rfl RV.nil) ?_; intro w' hw; exact Post.mk (is := []) (hK4.bk _ _ hw) List.nodup_nil rfl ⟨rfl, rfl⟩)
  · have g1 : cm .eql (bitsN A : Int) (bitsN B : Int) = false := cm_no (by omega)
    have g2 : cm .lss (cmpN A B) 0 = false := cm_lo' (by have := (cmp_bits (a := A) (b := B) (by omega)).1; omega)
    have g3 : cm .lss (bitsN A : Int) (bitsN B : Int) = false := cm_lo' (by omega)
    rcases bits_mul hz hy with hbq | hbq
    · repeat (first | refine C.seq ?_ | refine C.region ?_ | refine L.nil ?_ | refine D.seq ?_ | refine L.move (k := ?_) | refine L.assign (k := ?_) | refine C.no (h1 := ?_) | refine L.not (c := ?_) | refine C.skip ?_ | refine L.buildS (c := fun _ => ?_) | refine L.callQ (lives_S) (k := ?_) | refine L.callQ (hLt) (k := ?_) | refine L.callQ (hPk) (k := ?_) | (refine L.makeZ (m := k) rfl (by omega) ck (c := ?_); intro bm))
      rename_i nb1
      refine L.appendU [_] (L2 := []) (y := some (bm, List.replicate k (Value.int .u64 0), k)) (m := k) (u := .slice (some ⟨nb1, 0, none⟩) 1 1) (k := 1) (news := [.int .u64 1]) (zG bm) rfl (fun w hw => Rd.own (hw.holds _ List.mem_cons_self) (by simp) (Nat.le_refl _) 1 rfl) rfl (u64s_ones [1]) (by unfold maxLen; omega) (by omega) (c := fun y1 hG1 _ => ?_)
      have hG1' : osG 1 u1.length (u64s u1) y1 := by rw [lu1, hu1, u64s_app, ← u64s_zero]; exact hG1
      rw [← lu1]
      refine keepG hK0 hG1' (fun x hx => List.mem_append_right _ hx) (fun w1 hK1 => ?_)
      repeat (first | refine C.seq ?_ | refine C.region ?_ | refine L.nil ?_ | refine L.move (k := ?_) | refine L.assign (k := ?_) | refine D.seqR (h := ?_))
      refine callN hK1 (mulN a u1 (A * 18446744073709551616 ^ k) na nu1 (by rw [vu1, hA]) va (osV u1.length y1)) (hpre := fun _ hw => ⟨hK1.rd (List.mem_cons_of_mem _ List.mem_cons_self) hw, hK1.rd List.mem_cons_self hw⟩) (k := fun v2 w2 hK2 => ?_)
      repeat (first | refine C.seq ?_ | refine C.region ?_ | refine L.nil ?_ | refine L.move (k := ?_) | refine L.assign (k := ?_) | refine D.seqR (h := ?_) | (refine L.makeZ (m := k) rfl (by omega) ck (c := ?_); intro bm2))
      refine L.appendU [] (L2 := []) (y := some (bm2, List.replicate k (Value.int .u64 0), k)) (m := k) (u := va) (k := a.length) (news := u64s a) (zG bm2) rfl (fun w hw => hK2.rd (List.mem_cons_of_mem _ (List.mem_cons_of_mem _ List.mem_cons_self)) hw) (by rw [u64s_len, Nat.mul_one]) (u64s_ones a) (by unfold maxLen; omega) (by omega) (c := fun y2 hG2 _ => ?_)
      have hG2' : osG 1 u2.length (u64s u2) y2 := by rw [lu2, hu2, u64s_app, ← u64s_zero]; exact hG2
      rw [← lu2]
      refine keepG hK2 hG2' (fun x hx => hx) (fun w3 hK3 => ?_)
      repeat (first | refine C.seq ?_ | refine C.region ?_ | refine L.nil ?_ | refine L.move (k := ?_) | refine L.assign (k := ?_) | refine D.seqR (h := ?_))
      refine callN hK3 (mulN a b (A * B) na nb (by rw [hA, hB]) va vb) (hpre := fun _ hw => ⟨hK3.rd (List.mem_cons_of_mem _ (List.mem_cons_of_mem _ (List.mem_cons_of_mem _ List.mem_cons_self))) hw, hK3.rd (List.mem_cons_of_mem _ (List.mem_cons_of_mem _ (List.mem_cons_of_mem _ (List.mem_cons_of_mem _ List.mem_cons_self)))) hw⟩) (k := fun v4 w4 hK4 => ?_)
      repeat (first | refine C.seq ?_ | refine C.region ?_ | refine L.nil ?_ | refine L.move (k := ?_) | refine L.assign (k := ?_) | refine D.seqR (h := ?_))
      refine L.callQ (bitsS a (bitsN A) na (by rw [hA]) va) (hpre := fun _ hw => hK4.rd (List.mem_cons_of_mem _ (List.mem_cons_of_mem _ (List.mem_cons_of_mem _ (List.mem_cons_of_mem _ List.mem_cons_self)))) hw) (k := ?_)
      repeat (first | refine L.move (k := ?_))
      refine L.callQ (bitsS b (bitsN B) nb (by rw [hB]) vb) (hpre := fun _ hw => hK4.rd (List.mem_cons_of_mem _ (List.mem_cons_of_mem _ (List.mem_cons_of_mem _ (List.mem_cons_of_mem _ (List.mem_cons_of_mem _ List.mem_cons_self))))) hw) (k := ?_)
      repeat (first | refine C.seq ?_ | refine C.region ?_ | refine L.nil ?_ | refine D.seq ?_ | refine L.move (k := ?_) | refine L.assign (k := ?_))
      refine L.callQ (natT (can (A * 18446744073709551616 ^ k)) u2 np nu2 (by rw [lv_can, vu2]) v2 (osV u2.length y2)) (hpre := fun _ hw => ⟨hK4.rd (List.mem_cons_of_mem _ (List.mem_cons_of_mem _ List.mem_cons_self)) hw, hK4.rd (List.mem_cons_of_mem _ List.mem_cons_self) hw⟩) (k := ?_)
      repeat (first | refine L.move (k := ?_) | refine L.cm (c := ?_) | refine L.want (k := ?_) | refine L.not (c := ?_))
      refine L.callQ (bitsS (can (A * 18446744073709551616 ^ k)) (bitsN A + 64 * k) np (by rw [lv_can]; exact hbp hz) v2) (hpre := fun _ hw => hK4.rd (List.mem_cons_of_mem _ (List.mem_cons_of_mem _ List.mem_cons_self)) hw) (k := ?_)
      repeat (first | refine C.seq ?_ | refine C.region ?_ | refine L.nil ?_ | refine D.seq ?_ | refine L.move (k := ?_) | refine L.cm (c := ?_) | refine L.ar (c := ?_) | refine C.no (h1 := ?_) | refine L.pickT (k := ?_) | refine L.pickF (k := ?_) | refine L.want (k := ?_) | refine C.skip ?_)
      refine L.callQ (cmpS a b (cmpN A B) na nb (by rw [← hA, ← hB]) va vb) (hpre := fun _ hw => ⟨hK4.rd (List.mem_cons_of_mem _ (List.mem_cons_of_mem _ (List.mem_cons_of_mem _ (List.mem_cons_of_mem _ List.mem_cons_self)))) hw, hK4.rd (List.mem_cons_of_mem _ (List.mem_cons_of_mem _ (List.mem_cons_of_mem _ (List.mem_cons_of_mem _ (List.mem_cons_of_mem _ List.mem_cons_self))))) hw⟩) (k := ?_)
      repeat (first | refine C.seq ?_ | refine C.region ?_ | refine L.nil ?_ | refine D.seq ?_ | refine L.move (k := ?_) | refine L.assign (k := ?_))
      refine L.callQ (bitsS (can (A * B)) (bitsN A + bitsN B) nq (by rw [lv_can]; exact hbq) v4) (hpre := fun _ hw => hK4.rd List.mem_cons_self hw) (k := ?_)
      repeat (first | refine L.move (k := ?_) | refine L.cm (c := ?_) | refine L.ar (c := ?_) | refine L.pickT (k := ?_) | refine L.pickF (k := ?_) | refine L.want (k := ?_) | refine L.pass (k := ?_) | refine L.eqB (c := ?_) | refine negI hng (c := ?_))
      refine L.callQ (cmpS b a (cmpN B A) nb na (by rw [← hA, ← hB]) vb va) (hpre := fun _ hw => ⟨hK4.rd (List.mem_cons_of_mem _ (List.mem_cons_of_mem _ (List.mem_cons_of_mem _ (List.mem_cons_of_mem _ (List.mem_cons_of_mem _ List.mem_cons_self))))) hw, hK4.rd (List.mem_cons_of_mem _ (List.mem_cons_of_mem _ (List.mem_cons_of_mem _ (List.mem_cons_of_mem _ List.mem_cons_self)))) hw⟩) (k := ?_)
      repeat (first | refine L.move (k := ?_) | refine L.cm (c := ?_) | refine L.pickT (k := ?_) | refine L.want (k := ?_) | refine negI hng (c := ?_))
      refine L.callQ (natB a b (decide (A = B)) na nb (by rw [hA, hB]) va vb) (hpre := fun _ hw => ⟨hK4.rd (List.mem_cons_of_mem _ (List.mem_cons_of_mem _ (List.mem_cons_of_mem _ (List.mem_cons_of_mem _ List.mem_cons_self)))) hw, hK4.rd (List.mem_cons_of_mem _ (List.mem_cons_of_mem _ (List.mem_cons_of_mem _ (List.mem_cons_of_mem _ (List.mem_cons_of_mem _ List.mem_cons_self))))) hw⟩) (k := ?_)
      repeat (first | refine L.nil ?_ | refine D.seq ?_ | refine L.assign (k := ?_) | refine L.pickT (k := ?_) | refine L.want (k := ?_) | refine C.ret ?_ | refine L.eqB (c := ?_))
      (refine D.ret (vs := [_]) (RV.tmp rfl RV.nil) ?_; intro w' hw; exact Post.mk (is := []) (hK4.bk _ _ hw) List.nodup_nil rfl ⟨rfl, rfl⟩)
    · repeat (first | refine C.seq ?_ | refine C.region ?_ | refine L.nil ?_ | refine D.seq ?_ | refine L.move (k := ?_) | refine L.assign (k := ?_) | refine C.no (h1 := ?_) | refine L.not (c := ?_) | refine C.skip ?_ | refine L.buildS (c := fun _ => ?_) | refine L.callQ (lives_S) (k := ?_) | refine L.callQ (hLt) (k := ?_) | refine L.callQ (hPk) (k := ?_) | (refine L.makeZ (m := k) rfl (by omega) ck (c := ?_); intro bm))
      rename_i nb1
      refine L.appendU [_] (L2 := []) (y := some (bm, List.replicate k (Value.int .u64 0), k)) (m := k) (u := .slice (some ⟨nb1, 0, none⟩) 1 1) (k := 1) (news := [.int .u64 1]) (zG bm) rfl (fun w hw => Rd.own (hw.holds _ List.mem_cons_self) (by simp) (Nat.le_refl _) 1 rfl) rfl (u64s_ones [1]) (by unfold maxLen; omega) (by omega) (c := fun y1 hG1 _ => ?_)
      have hG1' : osG 1 u1.length (u64s u1) y1 := by rw [lu1, hu1, u64s_app, ← u64s_zero]; exact hG1
      rw [← lu1]
      refine keepG hK0 hG1' (fun x hx => List.mem_append_right _ hx) (fun w1 hK1 => ?_)
      repeat (first | refine C.seq ?_ | refine C.region ?_ | refine L.nil ?_ | refine L.move (k := ?_) | refine L.assign (k := ?_) | refine D.seqR (h := ?_))
      refine callN hK1 (mulN a u1 (A * 18446744073709551616 ^ k) na nu1 (by rw [vu1, hA]) va (osV u1.length y1)) (hpre := fun _ hw => ⟨hK1.rd (List.mem_cons_of_mem _ List.mem_cons_self) hw, hK1.rd List.mem_cons_self hw⟩) (k := fun v2 w2 hK2 => ?_)
      repeat (first | refine C.seq ?_ | refine C.region ?_ | refine L.nil ?_ | refine L.move (k := ?_) | refine L.assign (k := ?_) | refine D.seqR (h := ?_) | (refine L.makeZ (m := k) rfl (by omega) ck (c := ?_); intro bm2))
      refine L.appendU [] (L2 := []) (y := some (bm2, List.replicate k (Value.int .u64 0), k)) (m := k) (u := va) (k := a.length) (news := u64s a) (zG bm2) rfl (fun w hw => hK2.rd (List.mem_cons_of_mem _ (List.mem_cons_of_mem _ List.mem_cons_self)) hw) (by rw [u64s_len, Nat.mul_one]) (u64s_ones a) (by unfold maxLen; omega) (by omega) (c := fun y2 hG2 _ => ?_)
      have hG2' : osG 1 u2.length (u64s u2) y2 := by rw [lu2, hu2, u64s_app, ← u64s_zero]; exact hG2
      rw [← lu2]
      refine keepG hK2 hG2' (fun x hx => hx) (fun w3 hK3 => ?_)
      repeat (first | refine C.seq ?_ | refine C.region ?_ | refine L.nil ?_ | refine L.move (k := ?_) | refine L.assign (k := ?_) | refine D.seqR (h := ?_))
      refine callN hK3 (mulN a b (A * B) na nb (by rw [hA, hB]) va vb) (hpre := fun _ hw => ⟨hK3.rd (List.mem_cons_of_mem _ (List.mem_cons_of_mem _ (List.mem_cons_of_mem _ List.mem_cons_self))) hw, hK3.rd (List.mem_cons_of_mem _ (List.mem_cons_of_mem _ (List.mem_cons_of_mem _ (List.mem_cons_of_mem _ List.mem_cons_self)))) hw⟩) (k := fun v4 w4 hK4 => ?_)
      repeat (first | refine C.seq ?_ | refine C.region ?_ | refine L.nil ?_ | refine L.move (k := ?_) | refine L.assign (k := ?_) | refine D.seqR (h := ?_))
      refine L.callQ (bitsS a (bitsN A) na (by rw [hA]) va) (hpre := fun _ hw => hK4.rd (List.mem_cons_of_mem _ (List.mem_cons_of_mem _ (List.mem_cons_of_mem _ (List.mem_cons_of_mem _ List.mem_cons_self)))) hw) (k := ?_)
      repeat (first | refine L.move (k := ?_))
      refine L.callQ (bitsS b (bitsN B) nb (by rw [hB]) vb) (hpre := fun _ hw => hK4.rd (List.mem_cons_of_mem _ (List.mem_cons_of_mem _ (List.mem_cons_of_mem _ (List.mem_cons_of_mem _ (List.mem_cons_of_mem _ List.mem_cons_self))))) hw) (k := ?_)
      repeat (first | refine C.seq ?_ | refine C.region ?_ | refine L.nil ?_ | refine D.seq ?_ | refine L.move (k := ?_) | refine L.assign (k := ?_))
      refine L.callQ (natT (can (A * 18446744073709551616 ^ k)) u2 np nu2 (by rw [lv_can, vu2]) v2 (osV u2.length y2)) (hpre := fun _ hw => ⟨hK4.rd (List.mem_cons_of_mem _ (List.mem_cons_of_mem _ List.mem_cons_self)) hw, hK4.rd (List.mem_cons_of_mem _ List.mem_cons_self) hw⟩) (k := ?_)
      repeat (first | refine L.move (k := ?_) | refine L.cm (c := ?_) | refine L.want (k := ?_) | refine L.not (c := ?_))
      refine L.callQ (bitsS (can (A * 18446744073709551616 ^ k)) (bitsN A + 64 * k) np (by rw [lv_can]; exact hbp hz) v2) (hpre := fun _ hw => hK4.rd (List.mem_cons_of_mem _ (List.mem_cons_of_mem _ List.mem_cons_self)) hw) (k := ?_)
      repeat (first | refine C.seq ?_ | refine C.region ?_ | refine L.nil ?_ | refine D.seq ?_ | refine L.move (k := ?_) | refine L.cm (c := ?_) | refine L.ar (c := ?_) | refine C.no (h1 := ?_) | refine L.pickT (k := ?_) | refine L.pickF (k := ?_) | refine L.want (k := ?_) | refine C.skip ?_)
      refine L.callQ (cmpS a b (cmpN A B) na nb (by rw [← hA, ← hB]) va vb) (hpre := fun _ hw => ⟨hK4.rd (List.mem_cons_of_mem _ (List.mem_cons_of_mem _ (List.mem_cons_of_mem _ (List.mem_cons_of_mem _ List.mem_cons_self)))) hw, hK4.rd (List.mem_cons_of_mem _ (List.mem_cons_of_mem _ (List.mem_cons_of_mem _ (List.mem_cons_of_mem _ (List.mem_cons_of_mem _ List.mem_cons_self))))) hw⟩) (k := ?_)
      repeat (first | refine C.seq ?_ | refine C.region ?_ | refine L.nil ?_ | refine D.seq ?_ | refine L.move (k := ?_) | refine L.assign (k := ?_))
      refine L.callQ (bitsS (can (A * B)) (bitsN A + bitsN B - 1) nq (by rw [lv_can]; exact hbq) v4) (hpre := fun _ hw => hK4.rd List.mem_cons_self hw) (k := ?_)
      repeat (first | refine L.move (k := ?_) | refine L.cm (c := ?_) | refine L.ar (c := ?_) | refine L.want (k := ?_) | refine negI hng (c := ?_))
      refine L.callQ (bitsS (can (A * B)) (bitsN A + bitsN B - 1) nq (by rw [lv_can]; exact hbq) v4) (hpre := fun _ hw => hK4.rd List.mem_cons_self hw) (k := ?_)
      repeat (first | refine L.move (k := ?_) | refine L.cm (c := ?_) | refine L.ar (c := ?_) | refine L.pickT (k := ?_) | refine L.pickF (k := ?_) | refine L.want (k := ?_) | refine L.eqB (c := ?_))
      refine L.callQ (cmpS b a (cmpN B A) nb na (by rw [← hA, ← hB]) vb va) (hpre := fun _ hw => ⟨hK4.rd (List.mem_cons_of_mem _ (List.mem_cons_of_mem _ (List.mem_cons_of_mem _ (List.mem_cons_of_mem _ (List.mem_cons_of_mem _ List.mem_cons_self))))) hw, hK4.rd (List.mem_cons_of_mem _ (List.mem_cons_of_mem _ (List.mem_cons_of_mem _ (List.mem_cons_of_mem _ List.mem_cons_self)))) hw⟩) (k := ?_)
      repeat (first | refine L.move (k := ?_) | refine L.cm (c := ?_) | refine L.pickT (k := ?_) | refine L.want (k := ?_) | refine negI hng (c := ?_))
      refine L.callQ (natB a b (decide (A = B)) na nb (by rw [hA, hB]) va vb) (hpre := fun _ hw => ⟨hK4.rd (List.mem_cons_of_mem _ (List.mem_cons_of_mem _ (List.mem_cons_of_mem _ (List.mem_cons_of_mem _ List.mem_cons_self)))) hw, hK4.rd (List.mem_cons_of_mem _ (List.mem_cons_of_mem _ (List.mem_cons_of_mem _ (List.mem_cons_of_mem _ (List.mem_cons_of_mem _ List.mem_cons_self))))) hw⟩) (k := ?_)
      repeat (first | refine L.nil ?_ | refine D.seq ?_ | refine L.assign (k := ?_) | refine L.pickT (k := ?_) | refine L.want (k := ?_) | refine C.ret ?_ | refine L.eqB (c := ?_))
      (refine D.ret (vs := [_]) (RV.tmp rfl RV.nil) ?_; intro w' hw; exact Post.mk (is := []) (hK4.bk _ _ hw) List.nodup_nil rfl ⟨rfl, rfl⟩)
theorem _root_.Go.Proofs.YtpemoeincepilaaDoor.natShifts_walk (va : Value) (a : List Nat) (vb : Value) (b : List Nat) (n : Int) (hn : (Lit.int .i64 n).wf = true) (w : World) (ha : Nats w va a) (hb : Nats w vb b) :
    Calls Tryd.prog 4 #[va, vb, .int .i64 n] w fun e w' => e = .returned (.bool true) ∧ Below w.heap.size w w' :=
  (shifts_S a b ha.1 hb.1 ha.2.1 hb.2.1 va vb n (int_of_wf hn)).true w ⟨ha.2.2, hb.2.2⟩
end Go.Proofs.YtpemoeincepilaaDoor.Nt
