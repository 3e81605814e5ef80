/- The law NatBits: its walk. Conditions: limbs are numbers of 64 bits. -/
import Derived.Test.YtpemoeincepilaaDoorNtHl
set_option linter.unusedVariables false
set_option linter.unusedSimpArgs false
namespace Go.Proofs.YtpemoeincepilaaDoor.Nt
open Go Go.RowKit SL
attribute [local irreducible] SL.L SL.C SL.D SL.N SL.H SL.QL SL.QW SL.QP

set_option maxRecDepth 100000 in
set_option maxHeartbeats 40000000 in
theorem natbits_S (a : List Nat) (oa : okL a) (ma : a.length ≤ maxLen) (va : Value) (bit limbs : Int) (hb : I64' bit) (hl : I64' limbs) :
    Ctr Tryd.prog 5 [va, .int .i64 bit, .int .i64 limbs] [] (fun w => RdN w [] va a) (is (.bool true) []) := by
  refine Ctr.enter Tryd.func5 Tryd.ntmps5 rfl rfl (fun w ra => ?_)
  have sa := ra.1
  have hK0 : Kp w w [(va, a)] := Kp.init (fun p hp => by
    simp only [List.mem_cons, List.not_mem_nil, or_false] at hp
    rcases hp with rfl
    exact ra)
  by_cases h1 : 12 < a.length
  · have c0 : cm .gtr (a.length : Int) 12 = true := cm_gt (by omega)
    repeat (first | refine C.seq ?_ | refine C.region ?_ | refine L.nil ?_ | refine D.seq ?_ | refine L.move (k := ?_) | refine L.assign (k := ?_) | refine L.cm (c := ?_) | refine C.yes (h1 := ?_) | refine C.no (h1 := ?_) | refine L.not (c := ?_) | refine C.ret ?_ | refine D.thenRet ?_ | refine C.skip ?_ | refine L.callQ (lives_S) (k := ?_) | refine L.lenR sa (c := ?_))
    (refine D.ret (vs := [_]) (RV.tmp rfl RV.nil) ?_; intro w' hw; exact Post.mk (is := []) hw List.nodup_nil rfl ⟨rfl, rfl⟩)
  have c0 : cm .gtr (a.length : Int) 12 = false := cm_gt' (by omega)
  have na : nt a := ⟨oa, by omega⟩
  have xa : sm 12 (lv a) := sm_lv oa (by omega)
  have hP1 := pick_S bit 832 (by omega) hb
  obtain ⟨i, hi, hi2⟩ : ∃ i : Nat, bit % 832 = (i : Int) ∧ i < 832 := ⟨(bit % 832).toNat, by omega, by omega⟩
  rw [hi] at hP1
  have hP2 := pick_S limbs 13 (by omega) hl
  obtain ⟨k, hk, hk2⟩ : ∃ k : Nat, limbs % 13 = (k : Int) ∧ k < 13 := ⟨(limbs % 13).toNat, by omega, by omega⟩
  rw [hk] at hP2
  obtain ⟨A, hA⟩ : ∃ A, A = lv a := ⟨_, rfl⟩
  rw [← hA] at xa
  have hlk : lowK a (k : Int) = min k a.length := by unfold lowK; rw [Int.toNat_natCast]
  obtain ⟨Lo, hLo⟩ : ∃ Lo, Lo = lv (a.take (min k a.length)) := ⟨_, rfl⟩
  obtain ⟨u, hu⟩ : ∃ u, u = List.replicate k 0 ++ a.drop (min k a.length) := ⟨_, rfl⟩
  have xLo : sm k Lo := by rw [hLo]; exact sm_lv (okL_take oa _) (by rw [List.length_take]; omega)
  have nLo := nt_can xLo (by omega)
  have lLo := sm_len xLo
  have hsum : Lo + lv u = A := by rw [hLo, hu, hA]; exact low_up
  have nu : nt u := ⟨by rw [hu]; exact okL_up k (okL_drop oa _), by rw [hu, List.length_append, List.length_replicate, List.length_drop]; omega⟩
  have nA := nt_can xa (by omega)
  have lA : (can A).length ≤ 12 := sm_len xa
  have hfit : fitL (lv a) 13 = (can A ++ List.replicate (13 - (can A).length) 0, 0) := by
    unfold fitL; rw [if_neg (by omega), ← hA, if_neg (by omega)]; rfl
  have hFt := fit_S a na va 13 (by unfold I64'; omega)
  rw [hfit] at hFt
  simp only at hFt
  obtain ⟨f, hf⟩ : ∃ f, f = can A ++ List.replicate (13 - (can A).length) 0 := ⟨_, rfl⟩
  rw [← hf] at hFt
  have lf : f.length = 13 := by rw [hf, List.length_append, List.length_replicate]; omega
  have nf : nt f := ⟨by rw [hf]; exact okL_app (can_ok _) (fun x hx => by rw [List.eq_of_mem_replicate hx]; omega), by omega⟩
  have vf : lv f = A := by rw [hf, lv_pad, lv_can]
  have ck : k ≤ maxLen := by unfold maxLen; omega
  have hmn : (if (a.length : Int) < (k : Int) then (a.length : Int) else (k : Int)) = ((min k a.length : Nat) : Int) := by split <;> omega
  have hle : min k a.length ≤ a.length := Nat.min_le_right _ _
  have bA := bits_sm xa
  have d1 : ar .quo .i64 (i : Int) 64 = ((i / 64 : Nat) : Int) := i64_quo (b := 64) (by omega)
  have d2 : ar .rem .i64 (i : Int) 64 = ((i % 64 : Nat) : Int) := i64_rem (b := 64)
  have d3 : IntKind.u64.wrap ((i % 64 : Nat) : Int) = ((i % 64 : Nat) : Int) := u64_wrap (by omega)
  have hx := lmb_lt oa (i / 64)
  have d4 : ar .shr .u64 (lmb a (i / 64) : Int) ((i % 64 : Nat) : Int) = ((lmb a (i / 64) / 2 ^ (i % 64) : Nat) : Int) := ar_shrN _ _ (by omega)
  have d5 : ar .and .u64 ((lmb a (i / 64) / 2 ^ (i % 64) : Nat) : Int) 1 = ((A.testBit i).toNat : Int) := by
    rw [hA, ← bit_at oa i]
    exact ar_andN _ 1 (Nat.lt_of_le_of_lt (Nat.div_le_self _ _) hx) (by omega)
  have d6 : cm .eql ((A.testBit i).toNat : Int) 1 = A.testBit i := by cases A.testBit i <;> rfl
  have hBi : ∀ v, Ctr Tryd.prog 23 [v, .int .i64 (i : Int)] [] (fun w => RdN w [] v a) (is (.bool (A.testBit i)) []) := fun v => bitT a (i : Int) _ na (by unfold I64'; omega) (by rw [hA, Int.toNat_natCast]; simp) v
  have lu : u.length = k + (a.length - min k a.length) := by rw [hu, List.length_append, List.length_replicate, List.length_drop]
  have d10 : cm .neq (f.length : Int) 13 = false := cm_ne' (by omega)
  have d11 : cm .gtr ((can Lo).length : Int) (k : Int) = false := cm_gt' (by omega)
  by_cases hz : A = 0
  · have htb : A.testBit i = false := by rw [hz]; exact Nat.zero_testBit _
    have e0 : bitsN A = 0 := by rw [hz]; rfl
    have e1 : (can A).length = 0 := by rw [hz, can_zero]; rfl
    rw [htb] at d5 d6 hBi
    have d8 : cm .lss (i : Int) (bitsN A) = false := cm_lo' (by omega)
    have d9 : cm .eql (bitsN A : Int) 0 = true := cm_yes (by omega)
    have d13 : cm .eql ((can A).length : Int) 0 = true := cm_yes (by omega)
    by_cases hidx : i / 64 < a.length
    · have d7 : cm .lss ((i / 64 : Nat) : Int) a.length = true := cm_lo (by omega)
      have oA := ra.2 (by omega)
      have kA := u64s_get (get_lmb hidx)
      repeat (first | refine L.convI (hz := d3) (c := ?_) | refine C.seq ?_ | refine C.region ?_ | refine L.nil ?_ | refine D.seq ?_ | refine L.move (k := ?_) | refine L.assign (k := ?_) | refine L.cm (c := ?_) | refine L.ar (c := ?_) | refine C.no (h1 := ?_) | refine L.pickT (k := ?_) | refine L.want (k := ?_) | refine L.not (c := ?_) | refine C.skip ?_ | refine L.callQ (lives_S) (k := ?_) | refine L.lenR sa (c := ?_) | refine L.callQ (hP1) (k := ?_) | refine L.indexR sa hidx (c := ?_) | refine L.loadF oA kA (ho := by simp) (c := ?_))
      refine L.callQ (bitsS a (bitsN A) na (by rw [hA]) va) (hpre := fun _ hw => hK0.rd List.mem_cons_self hw) (k := ?_)
      repeat (first | refine C.seq ?_ | refine C.region ?_ | refine L.nil ?_ | refine D.seq ?_ | refine L.move (k := ?_) | refine L.assign (k := ?_) | refine L.callQ (hP2) (k := ?_))
      refine callN hK0 (lowN a (k : Int) Lo na (by rw [hlk, hLo]) va) (hpre := fun _ hw => hK0.rd List.mem_cons_self hw) (k := fun v1 w1 hK1 => ?_)
      repeat (first | refine C.seq ?_ | refine L.nil ?_ | refine L.assign (k := ?_) | refine D.seqR (h := ?_))
      have rcut : Rd w1 [] (cutV va (min k a.length) a.length 1) (a.length - min k a.length) (u64s (a.drop (min k a.length))) := by
        obtain ⟨q1, q2⟩ := cutV_sl 1 sa hle (Nat.le_refl _)
        exact Rd.sub (lo := min k a.length) (hi := a.length) (sz := 1) (hK1.fs _ (List.mem_cons_of_mem _ List.mem_cons_self)) (Nat.le_refl _) q1 q2 (fun i u hu => by
          unfold u64s at hu ⊢
          rw [List.getElem?_map, List.getElem?_drop] at hu
          rw [List.getElem?_map, Nat.mul_one]; exact hu)
      refine C.make (M0 := []) (by kernel_rfl) (h := ?_)
      (refine QP.quiet (v := ?_) (by exact rfl) (by exact rfl) (fun w1 g1 => ?_) ?_; rotate_left); repeat (first | refine L.nil ?_ | refine L.move (k := ?_) | exact D.endsQ)
      refine QP.mk0 [] (fun F B => ∃ bz : Nat, F = [(49, .slice (some ⟨bz, 0, none⟩) k k)] ∧ B = [(bz, ob (List.replicate k (Value.int .u64 0)) 34)]) (h := fun w1 g1 => ?_) (k := ?_)
      · refine L.makeZ (m := k) rfl (by omega) ck (c := ?_)
        intro bz
        refine L.nil ?_
        exact D.endsP1 [(bz, ob (List.replicate k (Value.int .u64 0)) 34)] (hR := ⟨bz, rfl, rfl⟩)
      (refine QP.quiet (v := ?_) (by exact rfl) (by exact rfl) (fun w1 g1 => ?_) ?_; rotate_left); repeat (first | refine L.nil ?_ | refine L.move (k := ?_) | exact D.endsQ)
      (refine QP.quiet (v := ?_) (by exact rfl) (by exact rfl) (fun w1 g1 => ?_) ?_; rotate_left); repeat (first | refine L.nil ?_ | refine L.move (k := ?_) | exact D.endsQ)
      (refine QP.quiet (v := ?_) (by exact rfl) (by exact rfl) (fun w1 g1 => ?_) ?_; rotate_left); repeat (first | refine L.nil ?_ | refine L.move (k := ?_) | exact D.endsQ)
      (refine QP.quiet (v := ?_) (by exact rfl) (by exact rfl) (fun w1 g1 => ?_) ?_; rotate_left); repeat (first | refine L.nil ?_ | exact D.endsQ | refine L.lenR sa (c := ?_))
      (refine QP.quiet (v := ?_) (by exact rfl) (by exact rfl) (fun w1 g1 => ?_) ?_; rotate_left); repeat (first | refine L.nil ?_ | exact D.endsQ | refine L.minI (hz := hmn) (c := ?_))
      (refine QP.quiet (v := ?_) (by exact rfl) (by exact rfl) (fun w1 g1 => ?_) ?_; rotate_left); repeat (first | refine L.nil ?_ | exact D.endsQ | refine L.sliceX (sz := 1) (lo := min k a.length) (hi := a.length) sa hle (Nat.le_refl _) (hy := .inr ⟨_, _, rfl, rfl⟩) (hz := .inl ⟨rfl, rfl⟩) (c := ?_))
      refine QP.mk1 1 [] (fun F B => ∃ y, osG 1 u.length (u64s u) y ∧ F = [(56, osV u.length y)] ∧ B = osC 34 y []) (h := ?_) (k := ?_)
      · rintro F B ⟨bz, rfl, rfl⟩ w2 g2
        refine L.appendU [] (cs := List.replicate k (Value.int .u64 0)) (L2 := []) (y := some (bz, List.replicate k (Value.int .u64 0), k)) (m := k) (u := cutV va (min k a.length) a.length 1) (k := a.length - min k a.length) (news := u64s (a.drop (min k a.length))) ⟨by simp, Nat.le_refl _, ck, by simp⟩ rfl (fun w hw => (rcut.base g2 _ (fun _ h => h)).at hw) (by rw [u64s_len, List.length_drop, Nat.mul_one]) (u64s_ones _) (by unfold maxLen; omega) (by omega) (c := fun y1 hG1 _ => ?_)
        rw [← lu] at hG1 ⊢
        refine L.nil ?_
        exact D.endsP1 (osC 34 y1 []) (hM := by simp) (hR := ⟨y1, by rw [hu, u64s_app, ← u64s_zero, ← hu]; exact hG1, rfl, rfl⟩)
      refine QP.mk1 8 [] (fun F B => ∃ y, osG 1 u.length (u64s u) y ∧ F = [(12, osV u.length y)] ∧ B = osC 34 y []) (h := ?_) (k := ?_)
      · rintro F B ⟨y, hG, rfl, rfl⟩ w2 g2
        refine L.assign (k := ?_)
        refine L.nil ?_
        exact D.endsP1 (osC 34 y []) (hR := ⟨y, hG, rfl, rfl⟩)
      refine QP.fin1 [none, some [], none, none, none, none, none, none, some [1], some [8]] 9 (nds := [[], [], [], [], [], [], [], [], [], []]) (hM := List.Perm.refl _) (k := ?_)
      rintro F B ⟨y2, hG2, rfl, rfl⟩
      rw [List.append_nil]
      repeat (first | refine C.seq ?_ | refine C.region ?_ | refine D.seq ?_ | refine L.move (k := ?_))
      refine keepG hK1 hG2 (fun x hx => hx) (fun w2 hK2 => ?_)
      refine callL hK2 hFt (hpre := fun _ hw => hK2.rd (List.mem_cons_of_mem _ (List.mem_cons_of_mem _ List.mem_cons_self)) hw) (k := fun v3 w3 hK3 => ?_)
      repeat (first | refine C.seq ?_ | refine C.region ?_ | refine L.nil ?_ | refine L.move (k := ?_) | refine L.assign (k := ?_) | refine L.extract (c := ?_) | refine D.seqR (h := ?_))
      refine callN hK3 (trimN a A na hA.symm va) (hpre := fun _ hw => hK3.rd (List.mem_cons_of_mem _ (List.mem_cons_of_mem _ (List.mem_cons_of_mem _ List.mem_cons_self))) hw) (k := fun v4 w4 hK4 => ?_)
      have st := hK4.sl List.mem_cons_self
      have sf := hK4.sl (List.mem_cons_of_mem _ List.mem_cons_self)
      have sl := hK4.sl (List.mem_cons_of_mem _ (List.mem_cons_of_mem _ (List.mem_cons_of_mem _ List.mem_cons_self)))
      repeat (first | refine C.seq ?_ | refine C.region ?_ | refine L.nil ?_ | refine L.move (k := ?_) | refine L.assign (k := ?_) | refine L.cm (c := ?_) | refine L.pickF (k := ?_) | refine L.want (k := ?_) | refine D.seqR (h := ?_) | refine L.lenR st (c := ?_) | refine L.lenR sf (c := ?_) | refine L.lenR sl (c := ?_))
      refine L.callQ (natT f a nf na (by rw [vf, hA]) v3 va) (hpre := fun _ hw => ⟨hK4.rd (List.mem_cons_of_mem _ List.mem_cons_self) hw, hK4.rd (List.mem_cons_of_mem _ (List.mem_cons_of_mem _ (List.mem_cons_of_mem _ (List.mem_cons_of_mem _ List.mem_cons_self)))) hw⟩) (k := ?_)
      repeat (first | refine L.move (k := ?_) | refine L.pickF (k := ?_) | refine L.want (k := ?_) | refine L.not (c := ?_) | refine L.lenR st (c := ?_) | refine L.lenR sf (c := ?_) | refine L.lenR sl (c := ?_))
      refine L.callQ (natT (can A) a nA na (by rw [lv_can, hA]) v4 va) (hpre := fun _ hw => ⟨hK4.rd List.mem_cons_self hw, hK4.rd (List.mem_cons_of_mem _ (List.mem_cons_of_mem _ (List.mem_cons_of_mem _ (List.mem_cons_of_mem _ List.mem_cons_self)))) hw⟩) (k := ?_)
      repeat (first | refine L.move (k := ?_) | refine L.pickF (k := ?_) | refine L.want (k := ?_) | refine L.not (c := ?_) | refine L.lenR st (c := ?_) | refine L.lenR sf (c := ?_) | refine L.lenR sl (c := ?_))
      refine L.callQ (trimT A nA v4) (hpre := fun _ hw => hK4.rd List.mem_cons_self hw) (k := ?_)
      repeat (first | refine C.seq ?_ | refine C.region ?_ | refine L.nil ?_ | refine D.seq ?_ | refine L.move (k := ?_) | refine L.cm (c := ?_) | refine C.no (h1 := ?_) | refine L.pickF (k := ?_) | refine L.want (k := ?_) | refine L.not (c := ?_) | refine C.skip ?_ | refine L.lenR st (c := ?_) | refine L.lenR sf (c := ?_) | refine L.lenR sl (c := ?_))
      refine L.callQ (hBi va) (hpre := fun _ hw => hK4.rd (List.mem_cons_of_mem _ (List.mem_cons_of_mem _ (List.mem_cons_of_mem _ (List.mem_cons_of_mem _ List.mem_cons_self)))) hw) (k := ?_)
      repeat (first | refine L.move (k := ?_) | refine L.cm (c := ?_) | refine L.pickT (k := ?_) | refine L.pickF (k := ?_) | refine L.want (k := ?_) | refine L.pass (k := ?_) | refine L.not (c := ?_) | refine L.eqB (c := ?_) | refine L.lenR st (c := ?_) | refine L.lenR sf (c := ?_) | refine L.lenR sl (c := ?_))
      refine callN hK4 (addN (can Lo) u A nLo nu (by rw [lv_can]; exact hsum) v1 (osV u.length y2)) (hpre := fun _ hw => ⟨hK4.rd (List.mem_cons_of_mem _ (List.mem_cons_of_mem _ (List.mem_cons_of_mem _ List.mem_cons_self))) hw, hK4.rd (List.mem_cons_of_mem _ (List.mem_cons_of_mem _ List.mem_cons_self)) hw⟩) (k := fun v5 w5 hK5 => ?_)
      repeat (first | refine L.move (k := ?_) | refine L.want (k := ?_))
      refine L.callQ (natT (can A) a nA na (by rw [lv_can, hA]) v5 va) (hpre := fun _ hw => ⟨hK5.rd List.mem_cons_self hw, hK5.rd (List.mem_cons_of_mem _ (List.mem_cons_of_mem _ (List.mem_cons_of_mem _ (List.mem_cons_of_mem _ (List.mem_cons_of_mem _ List.mem_cons_self))))) hw⟩) (k := ?_)
      repeat (first | refine L.nil ?_ | refine L.move (k := ?_) | refine L.assign (k := ?_) | refine L.cm (c := ?_) | refine L.pickT (k := ?_) | refine L.want (k := ?_) | refine L.pass (k := ?_) | refine C.ret ?_ | refine D.seqR (h := ?_) | refine L.lenR st (c := ?_) | refine L.lenR sf (c := ?_) | refine L.lenR sl (c := ?_))
      (refine D.ret (vs := [_]) (RV.tmp rfl RV.nil) ?_; intro w' hw; exact Post.mk (is := []) (hK5.bk _ _ hw) List.nodup_nil rfl ⟨rfl, rfl⟩)
    · have d7 : cm .lss ((i / 64 : Nat) : Int) a.length = false := cm_lo' (by omega)
      repeat (first | refine L.convI (hz := d3) (c := ?_) | refine C.seq ?_ | refine C.region ?_ | refine L.nil ?_ | refine D.seq ?_ | refine L.move (k := ?_) | refine L.assign (k := ?_) | refine L.cm (c := ?_) | refine L.ar (c := ?_) | refine C.no (h1 := ?_) | refine L.pickF (k := ?_) | refine L.pass (k := ?_) | refine L.not (c := ?_) | refine C.skip ?_ | refine L.callQ (lives_S) (k := ?_) | refine L.lenR sa (c := ?_) | refine L.callQ (hP1) (k := ?_))
      refine L.callQ (bitsS a (bitsN A) na (by rw [hA]) va) (hpre := fun _ hw => hK0.rd List.mem_cons_self hw) (k := ?_)
      repeat (first | refine C.seq ?_ | refine C.region ?_ | refine L.nil ?_ | refine D.seq ?_ | refine L.move (k := ?_) | refine L.assign (k := ?_) | refine L.callQ (hP2) (k := ?_))
      refine callN hK0 (lowN a (k : Int) Lo na (by rw [hlk, hLo]) va) (hpre := fun _ hw => hK0.rd List.mem_cons_self hw) (k := fun v1 w1 hK1 => ?_)
      repeat (first | refine C.seq ?_ | refine L.nil ?_ | refine L.assign (k := ?_) | refine D.seqR (h := ?_))
      have rcut : Rd w1 [] (cutV va (min k a.length) a.length 1) (a.length - min k a.length) (u64s (a.drop (min k a.length))) := by
        obtain ⟨q1, q2⟩ := cutV_sl 1 sa hle (Nat.le_refl _)
        exact Rd.sub (lo := min k a.length) (hi := a.length) (sz := 1) (hK1.fs _ (List.mem_cons_of_mem _ List.mem_cons_self)) (Nat.le_refl _) q1 q2 (fun i u hu => by
          unfold u64s at hu ⊢
          rw [List.getElem?_map, List.getElem?_drop] at hu
          rw [List.getElem?_map, Nat.mul_one]; exact hu)
      refine C.make (M0 := []) (by kernel_rfl) (h := ?_)
      (refine QP.quiet (v := ?_) (by exact rfl) (by exact rfl) (fun w1 g1 => ?_) ?_; rotate_left); repeat (first | refine L.nil ?_ | refine L.move (k := ?_) | exact D.endsQ)
      refine QP.mk0 [] (fun F B => ∃ bz : Nat, F = [(49, .slice (some ⟨bz, 0, none⟩) k k)] ∧ B = [(bz, ob (List.replicate k (Value.int .u64 0)) 34)]) (h := fun w1 g1 => ?_) (k := ?_)
      · refine L.makeZ (m := k) rfl (by omega) ck (c := ?_)
        intro bz
        refine L.nil ?_
        exact D.endsP1 [(bz, ob (List.replicate k (Value.int .u64 0)) 34)] (hR := ⟨bz, rfl, rfl⟩)
      (refine QP.quiet (v := ?_) (by exact rfl) (by exact rfl) (fun w1 g1 => ?_) ?_; rotate_left); repeat (first | refine L.nil ?_ | refine L.move (k := ?_) | exact D.endsQ)
      (refine QP.quiet (v := ?_) (by exact rfl) (by exact rfl) (fun w1 g1 => ?_) ?_; rotate_left); repeat (first | refine L.nil ?_ | refine L.move (k := ?_) | exact D.endsQ)
      (refine QP.quiet (v := ?_) (by exact rfl) (by exact rfl) (fun w1 g1 => ?_) ?_; rotate_left); repeat (first | refine L.nil ?_ | refine L.move (k := ?_) | exact D.endsQ)
      (refine QP.quiet (v := ?_) (by exact rfl) (by exact rfl) (fun w1 g1 => ?_) ?_; rotate_left); repeat (first | refine L.nil ?_ | exact D.endsQ | refine L.lenR sa (c := ?_))
      (refine QP.quiet (v := ?_) (by exact rfl) (by exact rfl) (fun w1 g1 => ?_) ?_; rotate_left); repeat (first | refine L.nil ?_ | exact D.endsQ | refine L.minI (hz := hmn) (c := ?_))
      (refine QP.quiet (v := ?_) (by exact rfl) (by exact rfl) (fun w1 g1 => ?_) ?_; rotate_left); repeat (first | refine L.nil ?_ | exact D.endsQ | refine L.sliceX (sz := 1) (lo := min k a.length) (hi := a.length) sa hle (Nat.le_refl _) (hy := .inr ⟨_, _, rfl, rfl⟩) (hz := .inl ⟨rfl, rfl⟩) (c := ?_))
      refine QP.mk1 1 [] (fun F B => ∃ y, osG 1 u.length (u64s u) y ∧ F = [(56, osV u.length y)] ∧ B = osC 34 y []) (h := ?_) (k := ?_)
      · rintro F B ⟨bz, rfl, rfl⟩ w2 g2
        refine L.appendU [] (cs := List.replicate k (Value.int .u64 0)) (L2 := []) (y := some (bz, List.replicate k (Value.int .u64 0), k)) (m := k) (u := cutV va (min k a.length) a.length 1) (k := a.length - min k a.length) (news := u64s (a.drop (min k a.length))) ⟨by simp, Nat.le_refl _, ck, by simp⟩ rfl (fun w hw => (rcut.base g2 _ (fun _ h => h)).at hw) (by rw [u64s_len, List.length_drop, Nat.mul_one]) (u64s_ones _) (by unfold maxLen; omega) (by omega) (c := fun y1 hG1 _ => ?_)
        rw [← lu] at hG1 ⊢
        refine L.nil ?_
        exact D.endsP1 (osC 34 y1 []) (hM := by simp) (hR := ⟨y1, by rw [hu, u64s_app, ← u64s_zero, ← hu]; exact hG1, rfl, rfl⟩)
      refine QP.mk1 8 [] (fun F B => ∃ y, osG 1 u.length (u64s u) y ∧ F = [(12, osV u.length y)] ∧ B = osC 34 y []) (h := ?_) (k := ?_)
      · rintro F B ⟨y, hG, rfl, rfl⟩ w2 g2
        refine L.assign (k := ?_)
        refine L.nil ?_
        exact D.endsP1 (osC 34 y []) (hR := ⟨y, hG, rfl, rfl⟩)
      refine QP.fin1 [none, some [], none, none, none, none, none, none, some [1], some [8]] 9 (nds := [[], [], [], [], [], [], [], [], [], []]) (hM := List.Perm.refl _) (k := ?_)
      rintro F B ⟨y2, hG2, rfl, rfl⟩
      rw [List.append_nil]
      repeat (first | refine C.seq ?_ | refine C.region ?_ | refine D.seq ?_ | refine L.move (k := ?_))
      refine keepG hK1 hG2 (fun x hx => hx) (fun w2 hK2 => ?_)
      refine callL hK2 hFt (hpre := fun _ hw => hK2.rd (List.mem_cons_of_mem _ (List.mem_cons_of_mem _ List.mem_cons_self)) hw) (k := fun v3 w3 hK3 => ?_)
      repeat (first | refine C.seq ?_ | refine C.region ?_ | refine L.nil ?_ | refine L.move (k := ?_) | refine L.assign (k := ?_) | refine L.extract (c := ?_) | refine D.seqR (h := ?_))
      refine callN hK3 (trimN a A na hA.symm va) (hpre := fun _ hw => hK3.rd (List.mem_cons_of_mem _ (List.mem_cons_of_mem _ (List.mem_cons_of_mem _ List.mem_cons_self))) hw) (k := fun v4 w4 hK4 => ?_)
      have st := hK4.sl List.mem_cons_self
      have sf := hK4.sl (List.mem_cons_of_mem _ List.mem_cons_self)
      have sl := hK4.sl (List.mem_cons_of_mem _ (List.mem_cons_of_mem _ (List.mem_cons_of_mem _ List.mem_cons_self)))
      repeat (first | refine C.seq ?_ | refine C.region ?_ | refine L.nil ?_ | refine L.move (k := ?_) | refine L.assign (k := ?_) | refine L.cm (c := ?_) | refine L.pickF (k := ?_) | refine L.want (k := ?_) | refine D.seqR (h := ?_) | refine L.lenR st (c := ?_) | refine L.lenR sf (c := ?_) | refine L.lenR sl (c := ?_))
      refine L.callQ (natT f a nf na (by rw [vf, hA]) v3 va) (hpre := fun _ hw => ⟨hK4.rd (List.mem_cons_of_mem _ List.mem_cons_self) hw, hK4.rd (List.mem_cons_of_mem _ (List.mem_cons_of_mem _ (List.mem_cons_of_mem _ (List.mem_cons_of_mem _ List.mem_cons_self)))) hw⟩) (k := ?_)
      repeat (first | refine L.move (k := ?_) | refine L.pickF (k := ?_) | refine L.want (k := ?_) | refine L.not (c := ?_) | refine L.lenR st (c := ?_) | refine L.lenR sf (c := ?_) | refine L.lenR sl (c := ?_))
      refine L.callQ (natT (can A) a nA na (by rw [lv_can, hA]) v4 va) (hpre := fun _ hw => ⟨hK4.rd List.mem_cons_self hw, hK4.rd (List.mem_cons_of_mem _ (List.mem_cons_of_mem _ (List.mem_cons_of_mem _ (List.mem_cons_of_mem _ List.mem_cons_self)))) hw⟩) (k := ?_)
      repeat (first | refine L.move (k := ?_) | refine L.pickF (k := ?_) | refine L.want (k := ?_) | refine L.not (c := ?_) | refine L.lenR st (c := ?_) | refine L.lenR sf (c := ?_) | refine L.lenR sl (c := ?_))
      refine L.callQ (trimT A nA v4) (hpre := fun _ hw => hK4.rd List.mem_cons_self hw) (k := ?_)
      repeat (first | refine C.seq ?_ | refine C.region ?_ | refine L.nil ?_ | refine D.seq ?_ | refine L.move (k := ?_) | refine L.cm (c := ?_) | refine C.no (h1 := ?_) | refine L.pickF (k := ?_) | refine L.want (k := ?_) | refine L.not (c := ?_) | refine C.skip ?_ | refine L.lenR st (c := ?_) | refine L.lenR sf (c := ?_) | refine L.lenR sl (c := ?_))
      refine L.callQ (hBi va) (hpre := fun _ hw => hK4.rd (List.mem_cons_of_mem _ (List.mem_cons_of_mem _ (List.mem_cons_of_mem _ (List.mem_cons_of_mem _ List.mem_cons_self)))) hw) (k := ?_)
      repeat (first | refine L.move (k := ?_) | refine L.cm (c := ?_) | refine L.pickT (k := ?_) | refine L.pickF (k := ?_) | refine L.want (k := ?_) | refine L.pass (k := ?_) | refine L.not (c := ?_) | refine L.eqB (c := ?_) | refine L.lenR st (c := ?_) | refine L.lenR sf (c := ?_) | refine L.lenR sl (c := ?_))
      refine callN hK4 (addN (can Lo) u A nLo nu (by rw [lv_can]; exact hsum) v1 (osV u.length y2)) (hpre := fun _ hw => ⟨hK4.rd (List.mem_cons_of_mem _ (List.mem_cons_of_mem _ (List.mem_cons_of_mem _ List.mem_cons_self))) hw, hK4.rd (List.mem_cons_of_mem _ (List.mem_cons_of_mem _ List.mem_cons_self)) hw⟩) (k := fun v5 w5 hK5 => ?_)
      repeat (first | refine L.move (k := ?_) | refine L.want (k := ?_))
      refine L.callQ (natT (can A) a nA na (by rw [lv_can, hA]) v5 va) (hpre := fun _ hw => ⟨hK5.rd List.mem_cons_self hw, hK5.rd (List.mem_cons_of_mem _ (List.mem_cons_of_mem _ (List.mem_cons_of_mem _ (List.mem_cons_of_mem _ (List.mem_cons_of_mem _ List.mem_cons_self))))) hw⟩) (k := ?_)
      repeat (first | refine L.nil ?_ | refine L.move (k := ?_) | refine L.assign (k := ?_) | refine L.cm (c := ?_) | refine L.pickT (k := ?_) | refine L.want (k := ?_) | refine L.pass (k := ?_) | refine C.ret ?_ | refine D.seqR (h := ?_) | refine L.lenR st (c := ?_) | refine L.lenR sf (c := ?_) | refine L.lenR sl (c := ?_))
      (refine D.ret (vs := [_]) (RV.tmp rfl RV.nil) ?_; intro w' hw; exact Post.mk (is := []) (hK5.bk _ _ hw) List.nodup_nil rfl ⟨rfl, rfl⟩)
  obtain ⟨hbp1, hbp2⟩ := bitsN_le hz
  have d9 : cm .eql (bitsN A : Int) 0 = false := cm_no (by omega)
  have d12 : ar .sub .i64 (bitsN A : Int) 1 = ((bitsN A - 1 : Nat) : Int) := i64_sub (b := 1) (by omega) (by omega)
  obtain ⟨m, hm⟩ : ∃ m, (can A).length = m + 1 := ⟨(can A).length - 1, by
    have : (can A).length ≠ 0 := fun h => hz (by have := lv_can A; rw [List.eq_nil_of_length_eq_zero h] at this; exact this.symm)
    omega⟩
  have hmt : m < (can A).length := by omega
  have hxm := get_lmb hmt
  obtain ⟨g1, g2, g3⟩ := bits_can hm hxm
  have kT := u64s_get hxm
  have hRb := rbits_S _ g3
  have hx64 : bitsN (lmb (can A) m) ≤ 64 := bitsN_iff.2 g3
  generalize lmb (can A) m = xm at *
  have d13 : cm .eql ((can A).length : Int) 0 = false := cm_no (by omega)
  have d14 : ar .sub .i64 ((can A).length : Int) 1 = (m : Int) := by rw [hm]; exact i64_sub (a := m + 1) (b := 1) (by omega) (by omega)
  have d15 : ar .mul .i64 64 (m : Int) = ((64 * m : Nat) : Int) := i64_mulL (a := 64) (by omega)
  have d16 : ar .add .i64 ((64 * m : Nat) : Int) (bitsN xm : Int) = (bitsN A : Int) := by rw [g2]; exact i64_addL (by omega)
  have d17 : cm .eql (bitsN A : Int) (bitsN A : Int) = true := cm_yes rfl
  cases htb : A.testBit i with
  | true =>
    rw [htb] at d5 d6 hBi
    have hlt := bit_hi htb
    have hb64 : bitsN A ≤ 64 * a.length := by rw [hA]; exact Nat.le_trans (bitsN_can_le _) (Nat.mul_le_mul_left _ (can_le oa))
    have hidx : i / 64 < a.length := by omega
    have d7 : cm .lss ((i / 64 : Nat) : Int) a.length = true := cm_lo (by omega)
    have d8 : cm .lss (i : Int) (bitsN A) = true := cm_lo (by omega)
    have oA := ra.2 (by omega)
    have kA := u64s_get (get_lmb hidx)
    repeat (first | refine L.convI (hz := d3) (c := ?_) | refine C.seq ?_ | refine C.region ?_ | refine L.nil ?_ | refine D.seq ?_ | refine L.move (k := ?_) | refine L.assign (k := ?_) | refine L.cm (c := ?_) | refine L.ar (c := ?_) | refine C.no (h1 := ?_) | refine L.pickT (k := ?_) | refine L.want (k := ?_) | refine L.not (c := ?_) | refine C.skip ?_ | refine L.callQ (lives_S) (k := ?_) | refine L.lenR sa (c := ?_) | refine L.callQ (hP1) (k := ?_) | refine L.indexR sa hidx (c := ?_) | refine L.loadF oA kA (ho := by simp) (c := ?_))
    refine L.callQ (bitsS a (bitsN A) na (by rw [hA]) va) (hpre := fun _ hw => hK0.rd List.mem_cons_self hw) (k := ?_)
    repeat (first | refine C.seq ?_ | refine C.region ?_ | refine L.nil ?_ | refine D.seq ?_ | refine L.move (k := ?_) | refine L.assign (k := ?_) | refine L.callQ (hP2) (k := ?_))
    refine callN hK0 (lowN a (k : Int) Lo na (by rw [hlk, hLo]) va) (hpre := fun _ hw => hK0.rd List.mem_cons_self hw) (k := fun v1 w1 hK1 => ?_)
    repeat (first | refine C.seq ?_ | refine L.nil ?_ | refine L.assign (k := ?_) | refine D.seqR (h := ?_))
    have rcut : Rd w1 [] (cutV va (min k a.length) a.length 1) (a.length - min k a.length) (u64s (a.drop (min k a.length))) := by
      obtain ⟨q1, q2⟩ := cutV_sl 1 sa hle (Nat.le_refl _)
      exact Rd.sub (lo := min k a.length) (hi := a.length) (sz := 1) (hK1.fs _ (List.mem_cons_of_mem _ List.mem_cons_self)) (Nat.le_refl _) q1 q2 (fun i u hu => by
        unfold u64s at hu ⊢
        rw [List.getElem?_map, List.getElem?_drop] at hu
        rw [List.getElem?_map, Nat.mul_one]; exact hu)
    refine C.make (M0 := []) (by kernel_rfl) (h := ?_)
    (refine QP.quiet (v := ?_) (by exact rfl) (by exact rfl) (fun w1 g1 => ?_) ?_; rotate_left); repeat (first | refine L.nil ?_ | refine L.move (k := ?_) | exact D.endsQ)
    refine QP.mk0 [] (fun F B => ∃ bz : Nat, F = [(49, .slice (some ⟨bz, 0, none⟩) k k)] ∧ B = [(bz, ob (List.replicate k (Value.int .u64 0)) 34)]) (h := fun w1 g1 => ?_) (k := ?_)
    · refine L.makeZ (m := k) rfl (by omega) ck (c := ?_)
      intro bz
      refine L.nil ?_
      exact D.endsP1 [(bz, ob (List.replicate k (Value.int .u64 0)) 34)] (hR := ⟨bz, rfl, rfl⟩)
    (refine QP.quiet (v := ?_) (by exact rfl) (by exact rfl) (fun w1 g1 => ?_) ?_; rotate_left); repeat (first | refine L.nil ?_ | refine L.move (k := ?_) | exact D.endsQ)
    (refine QP.quiet (v := ?_) (by exact rfl) (by exact rfl) (fun w1 g1 => ?_) ?_; rotate_left); repeat (first | refine L.nil ?_ | refine L.move (k := ?_) | exact D.endsQ)
    (refine QP.quiet (v := ?_) (by exact rfl) (by exact rfl) (fun w1 g1 => ?_) ?_; rotate_left); repeat (first | refine L.nil ?_ | refine L.move (k := ?_) | exact D.endsQ)
    (refine QP.quiet (v := ?_) (by exact rfl) (by exact rfl) (fun w1 g1 => ?_) ?_; rotate_left); repeat (first | refine L.nil ?_ | exact D.endsQ | refine L.lenR sa (c := ?_))
    (refine QP.quiet (v := ?_) (by exact rfl) (by exact rfl) (fun w1 g1 => ?_) ?_; rotate_left); repeat (first | refine L.nil ?_ | exact D.endsQ | refine L.minI (hz := hmn) (c := ?_))
    (refine QP.quiet (v := ?_) (by exact rfl) (by exact rfl) (fun w1 g1 => ?_) ?_; rotate_left); repeat (first | refine L.nil ?_ | exact D.endsQ | refine L.sliceX (sz := 1) (lo := min k a.length) (hi := a.length) sa hle (Nat.le_refl _) (hy := .inr ⟨_, _, rfl, rfl⟩) (hz := .inl ⟨rfl, rfl⟩) (c := ?_))
    refine QP.mk1 1 [] (fun F B => ∃ y, osG 1 u.length (u64s u) y ∧ F = [(56, osV u.length y)] ∧ B = osC 34 y []) (h := ?_) (k := ?_)
    · rintro F B ⟨bz, rfl, rfl⟩ w2 g2
      refine L.appendU [] (cs := List.replicate k (Value.int .u64 0)) (L2 := []) (y := some (bz, List.replicate k (Value.int .u64 0), k)) (m := k) (u := cutV va (min k a.length) a.length 1) (k := a.length - min k a.length) (news := u64s (a.drop (min k a.length))) ⟨by simp, Nat.le_refl _, ck, by simp⟩ rfl (fun w hw => (rcut.base g2 _ (fun _ h => h)).at hw) (by rw [u64s_len, List.length_drop, Nat.mul_one]) (u64s_ones _) (by unfold maxLen; omega) (by omega) (c := fun y1 hG1 _ => ?_)
      rw [← lu] at hG1 ⊢
      refine L.nil ?_
      exact D.endsP1 (osC 34 y1 []) (hM := by simp) (hR := ⟨y1, by rw [hu, u64s_app, ← u64s_zero, ← hu]; exact hG1, rfl, rfl⟩)
    refine QP.mk1 8 [] (fun F B => ∃ y, osG 1 u.length (u64s u) y ∧ F = [(12, osV u.length y)] ∧ B = osC 34 y []) (h := ?_) (k := ?_)
    · rintro F B ⟨y, hG, rfl, rfl⟩ w2 g2
      refine L.assign (k := ?_)
      refine L.nil ?_
      exact D.endsP1 (osC 34 y []) (hR := ⟨y, hG, rfl, rfl⟩)
    refine QP.fin1 [none, some [], none, none, none, none, none, none, some [1], some [8]] 9 (nds := [[], [], [], [], [], [], [], [], [], []]) (hM := List.Perm.refl _) (k := ?_)
    rintro F B ⟨y2, hG2, rfl, rfl⟩
    rw [List.append_nil]
    repeat (first | refine C.seq ?_ | refine C.region ?_ | refine D.seq ?_ | refine L.move (k := ?_))
    refine keepG hK1 hG2 (fun x hx => hx) (fun w2 hK2 => ?_)
    refine callL hK2 hFt (hpre := fun _ hw => hK2.rd (List.mem_cons_of_mem _ (List.mem_cons_of_mem _ List.mem_cons_self)) hw) (k := fun v3 w3 hK3 => ?_)
    repeat (first | refine C.seq ?_ | refine C.region ?_ | refine L.nil ?_ | refine L.move (k := ?_) | refine L.assign (k := ?_) | refine L.extract (c := ?_) | refine D.seqR (h := ?_))
    refine callN hK3 (trimN a A na hA.symm va) (hpre := fun _ hw => hK3.rd (List.mem_cons_of_mem _ (List.mem_cons_of_mem _ (List.mem_cons_of_mem _ List.mem_cons_self))) hw) (k := fun v4 w4 hK4 => ?_)
    have st := hK4.sl List.mem_cons_self
    have sf := hK4.sl (List.mem_cons_of_mem _ List.mem_cons_self)
    have sl := hK4.sl (List.mem_cons_of_mem _ (List.mem_cons_of_mem _ (List.mem_cons_of_mem _ List.mem_cons_self)))
    repeat (first | refine C.seq ?_ | refine C.region ?_ | refine L.nil ?_ | refine L.move (k := ?_) | refine L.assign (k := ?_) | refine L.cm (c := ?_) | refine L.pickF (k := ?_) | refine L.want (k := ?_) | refine D.seqR (h := ?_) | refine L.lenR st (c := ?_) | refine L.lenR sf (c := ?_) | refine L.lenR sl (c := ?_))
    refine L.callQ (natT f a nf na (by rw [vf, hA]) v3 va) (hpre := fun _ hw => ⟨hK4.rd (List.mem_cons_of_mem _ List.mem_cons_self) hw, hK4.rd (List.mem_cons_of_mem _ (List.mem_cons_of_mem _ (List.mem_cons_of_mem _ (List.mem_cons_of_mem _ List.mem_cons_self)))) hw⟩) (k := ?_)
    repeat (first | refine L.move (k := ?_) | refine L.pickF (k := ?_) | refine L.want (k := ?_) | refine L.not (c := ?_) | refine L.lenR st (c := ?_) | refine L.lenR sf (c := ?_) | refine L.lenR sl (c := ?_))
    refine L.callQ (natT (can A) a nA na (by rw [lv_can, hA]) v4 va) (hpre := fun _ hw => ⟨hK4.rd List.mem_cons_self hw, hK4.rd (List.mem_cons_of_mem _ (List.mem_cons_of_mem _ (List.mem_cons_of_mem _ (List.mem_cons_of_mem _ List.mem_cons_self)))) hw⟩) (k := ?_)
    repeat (first | refine L.move (k := ?_) | refine L.pickF (k := ?_) | refine L.want (k := ?_) | refine L.not (c := ?_) | refine L.lenR st (c := ?_) | refine L.lenR sf (c := ?_) | refine L.lenR sl (c := ?_))
    refine L.callQ (trimT A nA v4) (hpre := fun _ hw => hK4.rd List.mem_cons_self hw) (k := ?_)
    repeat (first | refine C.seq ?_ | refine C.region ?_ | refine L.nil ?_ | refine D.seq ?_ | refine L.move (k := ?_) | refine L.cm (c := ?_) | refine C.no (h1 := ?_) | refine L.pickF (k := ?_) | refine L.want (k := ?_) | refine L.not (c := ?_) | refine C.skip ?_ | refine L.lenR st (c := ?_) | refine L.lenR sf (c := ?_) | refine L.lenR sl (c := ?_))
    refine L.callQ (hBi va) (hpre := fun _ hw => hK4.rd (List.mem_cons_of_mem _ (List.mem_cons_of_mem _ (List.mem_cons_of_mem _ (List.mem_cons_of_mem _ List.mem_cons_self)))) hw) (k := ?_)
    repeat (first | refine L.move (k := ?_) | refine L.cm (c := ?_) | refine L.ar (c := ?_) | refine L.pickT (k := ?_) | refine L.want (k := ?_) | refine L.pass (k := ?_) | refine L.eqB (c := ?_) | refine L.lenR st (c := ?_) | refine L.lenR sf (c := ?_) | refine L.lenR sl (c := ?_))
    refine L.callQ (bitT a ((bitsN A - 1 : Nat) : Int) true na (by unfold I64'; omega) (by rw [← hA, Int.toNat_natCast, bit_top hz]; simp) va) (hpre := fun _ hw => hK4.rd (List.mem_cons_of_mem _ (List.mem_cons_of_mem _ (List.mem_cons_of_mem _ (List.mem_cons_of_mem _ List.mem_cons_self)))) hw) (k := ?_)
    repeat (first | refine L.move (k := ?_) | refine L.pickT (k := ?_) | refine L.pickF (k := ?_) | refine L.want (k := ?_) | refine L.lenR st (c := ?_) | refine L.lenR sf (c := ?_) | refine L.lenR sl (c := ?_))
    refine callN hK4 (addN (can Lo) u A nLo nu (by rw [lv_can]; exact hsum) v1 (osV u.length y2)) (hpre := fun _ hw => ⟨hK4.rd (List.mem_cons_of_mem _ (List.mem_cons_of_mem _ (List.mem_cons_of_mem _ List.mem_cons_self))) hw, hK4.rd (List.mem_cons_of_mem _ (List.mem_cons_of_mem _ List.mem_cons_self)) hw⟩) (k := fun v5 w5 hK5 => ?_)
    repeat (first | refine L.move (k := ?_) | refine L.want (k := ?_))
    refine L.callQ (natT (can A) a nA na (by rw [lv_can, hA]) v5 va) (hpre := fun _ hw => ⟨hK5.rd List.mem_cons_self hw, hK5.rd (List.mem_cons_of_mem _ (List.mem_cons_of_mem _ (List.mem_cons_of_mem _ (List.mem_cons_of_mem _ (List.mem_cons_of_mem _ List.mem_cons_self))))) hw⟩) (k := ?_)
    have oT := (hK5.fs _ (List.mem_cons_of_mem _ List.mem_cons_self)).2 (show 0 < (can A).length by omega)
    repeat (first | refine L.nil ?_ | refine L.move (k := ?_) | refine L.assign (k := ?_) | refine L.cm (c := ?_) | refine L.ar (c := ?_) | refine L.pickT (k := ?_) | refine L.pickF (k := ?_) | refine L.want (k := ?_) | refine C.ret ?_ | refine D.seqR (h := ?_) | refine L.lenR st (c := ?_) | refine L.lenR sf (c := ?_) | refine L.lenR sl (c := ?_) | refine L.indexR st hmt (c := ?_) | refine L.loadF oT kT (ho := by simp) (c := ?_) | refine L.callQ (hRb) (k := ?_))
    (refine D.ret (vs := [_]) (RV.tmp rfl RV.nil) ?_; intro w' hw; exact Post.mk (is := []) (hK5.bk _ _ hw) List.nodup_nil rfl ⟨rfl, rfl⟩)
  | false =>
    rw [htb] at d5 d6 hBi
    by_cases hidx : i / 64 < a.length
    · have d7 : cm .lss ((i / 64 : Nat) : Int) a.length = true := cm_lo (by omega)
      have oA := ra.2 (by omega)
      have kA := u64s_get (get_lmb hidx)
      by_cases hlt : i < bitsN A
      · have d8 : cm .lss (i : Int) (bitsN A) = true := cm_lo (by omega)
        repeat (first | refine L.convI (hz := d3) (c := ?_) | refine C.seq ?_ | refine C.region ?_ | refine L.nil ?_ | refine D.seq ?_ | refine L.move (k := ?_) | refine L.assign (k := ?_) | refine L.cm (c := ?_) | refine L.ar (c := ?_) | refine C.no (h1 := ?_) | refine L.pickT (k := ?_) | refine L.want (k := ?_) | refine L.not (c := ?_) | refine C.skip ?_ | refine L.callQ (lives_S) (k := ?_) | refine L.lenR sa (c := ?_) | refine L.callQ (hP1) (k := ?_) | refine L.indexR sa hidx (c := ?_) | refine L.loadF oA kA (ho := by simp) (c := ?_))
        refine L.callQ (bitsS a (bitsN A) na (by rw [hA]) va) (hpre := fun _ hw => hK0.rd List.mem_cons_self hw) (k := ?_)
        repeat (first | refine C.seq ?_ | refine C.region ?_ | refine L.nil ?_ | refine D.seq ?_ | refine L.move (k := ?_) | refine L.assign (k := ?_) | refine L.callQ (hP2) (k := ?_))
        refine callN hK0 (lowN a (k : Int) Lo na (by rw [hlk, hLo]) va) (hpre := fun _ hw => hK0.rd List.mem_cons_self hw) (k := fun v1 w1 hK1 => ?_)
        repeat (first | refine C.seq ?_ | refine L.nil ?_ | refine L.assign (k := ?_) | refine D.seqR (h := ?_))
        have rcut : Rd w1 [] (cutV va (min k a.length) a.length 1) (a.length - min k a.length) (u64s (a.drop (min k a.length))) := by
          obtain ⟨q1, q2⟩ := cutV_sl 1 sa hle (Nat.le_refl _)
          exact Rd.sub (lo := min k a.length) (hi := a.length) (sz := 1) (hK1.fs _ (List.mem_cons_of_mem _ List.mem_cons_self)) (Nat.le_refl _) q1 q2 (fun i u hu => by
            unfold u64s at hu ⊢
            rw [List.getElem?_map, List.getElem?_drop] at hu
            rw [List.getElem?_map, Nat.mul_one]; exact hu)
        refine C.make (M0 := []) (by kernel_rfl) (h := ?_)
        (refine QP.quiet (v := ?_) (by exact rfl) (by exact rfl) (fun w1 g1 => ?_) ?_; rotate_left); repeat (first | refine L.nil ?_ | refine L.move (k := ?_) | exact D.endsQ)
        refine QP.mk0 [] (fun F B => ∃ bz : Nat, F = [(49, .slice (some ⟨bz, 0, none⟩) k k)] ∧ B = [(bz, ob (List.replicate k (Value.int .u64 0)) 34)]) (h := fun w1 g1 => ?_) (k := ?_)
        · refine L.makeZ (m := k) rfl (by omega) ck (c := ?_)
          intro bz
          refine L.nil ?_
          exact D.endsP1 [(bz, ob (List.replicate k (Value.int .u64 0)) 34)] (hR := ⟨bz, rfl, rfl⟩)
        (refine QP.quiet (v := ?_) (by exact rfl) (by exact rfl) (fun w1 g1 => ?_) ?_; rotate_left); repeat (first | refine L.nil ?_ | refine L.move (k := ?_) | exact D.endsQ)
        (refine QP.quiet (v := ?_) (by exact rfl) (by exact rfl) (fun w1 g1 => ?_) ?_; rotate_left); repeat (first | refine L.nil ?_ | refine L.move (k := ?_) | exact D.endsQ)
        (refine QP.quiet (v := ?_) (by exact rfl) (by exact rfl) (fun w1 g1 => ?_) ?_; rotate_left); repeat (first | refine L.nil ?_ | refine L.move (k := ?_) | exact D.endsQ)
        (refine QP.quiet (v := ?_) (by exact rfl) (by exact rfl) (fun w1 g1 => ?_) ?_; rotate_left); repeat (first | refine L.nil ?_ | exact D.endsQ | refine L.lenR sa (c := ?_))
        (refine QP.quiet (v := ?_) (by exact rfl) (by exact rfl) (fun w1 g1 => ?_) ?_; rotate_left); repeat (first | refine L.nil ?_ | exact D.endsQ | refine L.minI (hz := hmn) (c := ?_))
        (refine QP.quiet (v := ?_) (by exact rfl) (by exact rfl) (fun w1 g1 => ?_) ?_; rotate_left); repeat (first | refine L.nil ?_ | exact D.endsQ | refine L.sliceX (sz := 1) (lo := min k a.length) (hi := a.length) sa hle (Nat.le_refl _) (hy := .inr ⟨_, _, rfl, rfl⟩) (hz := .inl ⟨rfl, rfl⟩) (c := ?_))
        refine QP.mk1 1 [] (fun F B => ∃ y, osG 1 u.length (u64s u) y ∧ F = [(56, osV u.length y)] ∧ B = osC 34 y []) (h := ?_) (k := ?_)
        · rintro F B ⟨bz, rfl, rfl⟩ w2 g2
          refine L.appendU [] (cs := List.replicate k (Value.int .u64 0)) (L2 := []) (y := some (bz, List.replicate k (Value.int .u64 0), k)) (m := k) (u := cutV va (min k a.length) a.length 1) (k := a.length - min k a.length) (news := u64s (a.drop (min k a.length))) ⟨by simp, Nat.le_refl _, ck, by simp⟩ rfl (fun w hw => (rcut.base g2 _ (fun _ h => h)).at hw) (by rw [u64s_len, List.length_drop, Nat.mul_one]) (u64s_ones _) (by unfold maxLen; omega) (by omega) (c := fun y1 hG1 _ => ?_)
          rw [← lu] at hG1 ⊢
          refine L.nil ?_
          exact D.endsP1 (osC 34 y1 []) (hM := by simp) (hR := ⟨y1, by rw [hu, u64s_app, ← u64s_zero, ← hu]; exact hG1, rfl, rfl⟩)
        refine QP.mk1 8 [] (fun F B => ∃ y, osG 1 u.length (u64s u) y ∧ F = [(12, osV u.length y)] ∧ B = osC 34 y []) (h := ?_) (k := ?_)
        · rintro F B ⟨y, hG, rfl, rfl⟩ w2 g2
          refine L.assign (k := ?_)
          refine L.nil ?_
          exact D.endsP1 (osC 34 y []) (hR := ⟨y, hG, rfl, rfl⟩)
        refine QP.fin1 [none, some [], none, none, none, none, none, none, some [1], some [8]] 9 (nds := [[], [], [], [], [], [], [], [], [], []]) (hM := List.Perm.refl _) (k := ?_)
        rintro F B ⟨y2, hG2, rfl, rfl⟩
        rw [List.append_nil]
        repeat (first | refine C.seq ?_ | refine C.region ?_ | refine D.seq ?_ | refine L.move (k := ?_))
        refine keepG hK1 hG2 (fun x hx => hx) (fun w2 hK2 => ?_)
        refine callL hK2 hFt (hpre := fun _ hw => hK2.rd (List.mem_cons_of_mem _ (List.mem_cons_of_mem _ List.mem_cons_self)) hw) (k := fun v3 w3 hK3 => ?_)
        repeat (first | refine C.seq ?_ | refine C.region ?_ | refine L.nil ?_ | refine L.move (k := ?_) | refine L.assign (k := ?_) | refine L.extract (c := ?_) | refine D.seqR (h := ?_))
        refine callN hK3 (trimN a A na hA.symm va) (hpre := fun _ hw => hK3.rd (List.mem_cons_of_mem _ (List.mem_cons_of_mem _ (List.mem_cons_of_mem _ List.mem_cons_self))) hw) (k := fun v4 w4 hK4 => ?_)
        have st := hK4.sl List.mem_cons_self
        have sf := hK4.sl (List.mem_cons_of_mem _ List.mem_cons_self)
        have sl := hK4.sl (List.mem_cons_of_mem _ (List.mem_cons_of_mem _ (List.mem_cons_of_mem _ List.mem_cons_self)))
        repeat (first | refine C.seq ?_ | refine C.region ?_ | refine L.nil ?_ | refine L.move (k := ?_) | refine L.assign (k := ?_) | refine L.cm (c := ?_) | refine L.pickF (k := ?_) | refine L.want (k := ?_) | refine D.seqR (h := ?_) | refine L.lenR st (c := ?_) | refine L.lenR sf (c := ?_) | refine L.lenR sl (c := ?_))
        refine L.callQ (natT f a nf na (by rw [vf, hA]) v3 va) (hpre := fun _ hw => ⟨hK4.rd (List.mem_cons_of_mem _ List.mem_cons_self) hw, hK4.rd (List.mem_cons_of_mem _ (List.mem_cons_of_mem _ (List.mem_cons_of_mem _ (List.mem_cons_of_mem _ List.mem_cons_self)))) hw⟩) (k := ?_)
        repeat (first | refine L.move (k := ?_) | refine L.pickF (k := ?_) | refine L.want (k := ?_) | refine L.not (c := ?_) | refine L.lenR st (c := ?_) | refine L.lenR sf (c := ?_) | refine L.lenR sl (c := ?_))
        refine L.callQ (natT (can A) a nA na (by rw [lv_can, hA]) v4 va) (hpre := fun _ hw => ⟨hK4.rd List.mem_cons_self hw, hK4.rd (List.mem_cons_of_mem _ (List.mem_cons_of_mem _ (List.mem_cons_of_mem _ (List.mem_cons_of_mem _ List.mem_cons_self)))) hw⟩) (k := ?_)
        repeat (first | refine L.move (k := ?_) | refine L.pickF (k := ?_) | refine L.want (k := ?_) | refine L.not (c := ?_) | refine L.lenR st (c := ?_) | refine L.lenR sf (c := ?_) | refine L.lenR sl (c := ?_))
        refine L.callQ (trimT A nA v4) (hpre := fun _ hw => hK4.rd List.mem_cons_self hw) (k := ?_)
        repeat (first | refine C.seq ?_ | refine C.region ?_ | refine L.nil ?_ | refine D.seq ?_ | refine L.move (k := ?_) | refine L.cm (c := ?_) | refine C.no (h1 := ?_) | refine L.pickF (k := ?_) | refine L.want (k := ?_) | refine L.not (c := ?_) | refine C.skip ?_ | refine L.lenR st (c := ?_) | refine L.lenR sf (c := ?_) | refine L.lenR sl (c := ?_))
        refine L.callQ (hBi va) (hpre := fun _ hw => hK4.rd (List.mem_cons_of_mem _ (List.mem_cons_of_mem _ (List.mem_cons_of_mem _ (List.mem_cons_of_mem _ List.mem_cons_self)))) hw) (k := ?_)
        repeat (first | refine L.move (k := ?_) | refine L.cm (c := ?_) | refine L.ar (c := ?_) | refine L.pickT (k := ?_) | refine L.want (k := ?_) | refine L.pass (k := ?_) | refine L.eqB (c := ?_) | refine L.lenR st (c := ?_) | refine L.lenR sf (c := ?_) | refine L.lenR sl (c := ?_))
        refine L.callQ (bitT a ((bitsN A - 1 : Nat) : Int) true na (by unfold I64'; omega) (by rw [← hA, Int.toNat_natCast, bit_top hz]; simp) va) (hpre := fun _ hw => hK4.rd (List.mem_cons_of_mem _ (List.mem_cons_of_mem _ (List.mem_cons_of_mem _ (List.mem_cons_of_mem _ List.mem_cons_self)))) hw) (k := ?_)
        repeat (first | refine L.move (k := ?_) | refine L.pickT (k := ?_) | refine L.pickF (k := ?_) | refine L.want (k := ?_) | refine L.lenR st (c := ?_) | refine L.lenR sf (c := ?_) | refine L.lenR sl (c := ?_))
        refine callN hK4 (addN (can Lo) u A nLo nu (by rw [lv_can]; exact hsum) v1 (osV u.length y2)) (hpre := fun _ hw => ⟨hK4.rd (List.mem_cons_of_mem _ (List.mem_cons_of_mem _ (List.mem_cons_of_mem _ List.mem_cons_self))) hw, hK4.rd (List.mem_cons_of_mem _ (List.mem_cons_of_mem _ List.mem_cons_self)) hw⟩) (k := fun v5 w5 hK5 => ?_)
        repeat (first | refine L.move (k := ?_) | refine L.want (k := ?_))
        refine L.callQ (natT (can A) a nA na (by rw [lv_can, hA]) v5 va) (hpre := fun _ hw => ⟨hK5.rd List.mem_cons_self hw, hK5.rd (List.mem_cons_of_mem _ (List.mem_cons_of_mem _ (List.mem_cons_of_mem _ (List.mem_cons_of_mem _ (List.mem_cons_of_mem _ List.mem_cons_self))))) hw⟩) (k := ?_)
        have oT := (hK5.fs _ (List.mem_cons_of_mem _ List.mem_cons_self)).2 (show 0 < (can A).length by omega)
        repeat (first | refine L.nil ?_ | refine L.move (k := ?_) | refine L.assign (k := ?_) | refine L.cm (c := ?_) | refine L.ar (c := ?_) | refine L.pickT (k := ?_) | refine L.pickF (k := ?_) | refine L.want (k := ?_) | refine C.ret ?_ | refine D.seqR (h := ?_) | refine L.lenR st (c := ?_) | refine L.lenR sf (c := ?_) | refine L.lenR sl (c := ?_) | refine L.indexR st hmt (c := ?_) | refine L.loadF oT kT (ho := by simp) (c := ?_) | refine L.callQ (hRb) (k := ?_))
        (refine D.ret (vs := [_]) (RV.tmp rfl RV.nil) ?_; intro w' hw; exact Post.mk (is := []) (hK5.bk _ _ hw) List.nodup_nil rfl ⟨rfl, rfl⟩)
      · have d8 : cm .lss (i : Int) (bitsN A) = false := cm_lo' (by omega)
        repeat (first | refine L.convI (hz := d3) (c := ?_) | refine C.seq ?_ | refine C.region ?_ | refine L.nil ?_ | refine D.seq ?_ | refine L.move (k := ?_) | refine L.assign (k := ?_) | refine L.cm (c := ?_) | refine L.ar (c := ?_) | refine C.no (h1 := ?_) | refine L.pickT (k := ?_) | refine L.want (k := ?_) | refine L.not (c := ?_) | refine C.skip ?_ | refine L.callQ (lives_S) (k := ?_) | refine L.lenR sa (c := ?_) | refine L.callQ (hP1) (k := ?_) | refine L.indexR sa hidx (c := ?_) | refine L.loadF oA kA (ho := by simp) (c := ?_))
        refine L.callQ (bitsS a (bitsN A) na (by rw [hA]) va) (hpre := fun _ hw => hK0.rd List.mem_cons_self hw) (k := ?_)
        repeat (first | refine C.seq ?_ | refine C.region ?_ | refine L.nil ?_ | refine D.seq ?_ | refine L.move (k := ?_) | refine L.assign (k := ?_) | refine L.callQ (hP2) (k := ?_))
        refine callN hK0 (lowN a (k : Int) Lo na (by rw [hlk, hLo]) va) (hpre := fun _ hw => hK0.rd List.mem_cons_self hw) (k := fun v1 w1 hK1 => ?_)
        repeat (first | refine C.seq ?_ | refine L.nil ?_ | refine L.assign (k := ?_) | refine D.seqR (h := ?_))
        have rcut : Rd w1 [] (cutV va (min k a.length) a.length 1) (a.length - min k a.length) (u64s (a.drop (min k a.length))) := by
          obtain ⟨q1, q2⟩ := cutV_sl 1 sa hle (Nat.le_refl _)
          exact Rd.sub (lo := min k a.length) (hi := a.length) (sz := 1) (hK1.fs _ (List.mem_cons_of_mem _ List.mem_cons_self)) (Nat.le_refl _) q1 q2 (fun i u hu => by
            unfold u64s at hu ⊢
            rw [List.getElem?_map, List.getElem?_drop] at hu
            rw [List.getElem?_map, Nat.mul_one]; exact hu)
        refine C.make (M0 := []) (by kernel_rfl) (h := ?_)
        (refine QP.quiet (v := ?_) (by exact rfl) (by exact rfl) (fun w1 g1 => ?_) ?_; rotate_left); repeat (first | refine L.nil ?_ | refine L.move (k := ?_) | exact D.endsQ)
        refine QP.mk0 [] (fun F B => ∃ bz : Nat, F = [(49, .slice (some ⟨bz, 0, none⟩) k k)] ∧ B = [(bz, ob (List.replicate k (Value.int .u64 0)) 34)]) (h := fun w1 g1 => ?_) (k := ?_)
        · refine L.makeZ (m := k) rfl (by omega) ck (c := ?_)
          intro bz
          refine L.nil ?_
          exact D.endsP1 [(bz, ob (List.replicate k (Value.int .u64 0)) 34)] (hR := ⟨bz, rfl, rfl⟩)
        (refine QP.quiet (v := ?_) (by exact rfl) (by exact rfl) (fun w1 g1 => ?_) ?_; rotate_left); repeat (first | refine L.nil ?_ | refine L.move (k := ?_) | exact D.endsQ)
        (refine QP.quiet (v := ?_) (by exact rfl) (by exact rfl) (fun w1 g1 => ?_) ?_; rotate_left); repeat (first | refine L.nil ?_ | refine L.move (k := ?_) | exact D.endsQ)
        (refine QP.quiet (v := ?_) (by exact rfl) (by exact rfl) (fun w1 g1 => ?_) ?_; rotate_left); repeat (first | refine L.nil ?_ | refine L.move (k := ?_) | exact D.endsQ)
        (refine QP.quiet (v := ?_) (by exact rfl) (by exact rfl) (fun w1 g1 => ?_) ?_; rotate_left); repeat (first | refine L.nil ?_ | exact D.endsQ | refine L.lenR sa (c := ?_))
        (refine QP.quiet (v := ?_) (by exact rfl) (by exact rfl) (fun w1 g1 => ?_) ?_; rotate_left); repeat (first | refine L.nil ?_ | exact D.endsQ | refine L.minI (hz := hmn) (c := ?_))
        (refine QP.quiet (v := ?_) (by exact rfl) (by exact rfl) (fun w1 g1 => ?_) ?_; rotate_left); repeat (first | refine L.nil ?_ | exact D.endsQ | refine L.sliceX (sz := 1) (lo := min k a.length) (hi := a.length) sa hle (Nat.le_refl _) (hy := .inr ⟨_, _, rfl, rfl⟩) (hz := .inl ⟨rfl, rfl⟩) (c := ?_))
        refine QP.mk1 1 [] (fun F B => ∃ y, osG 1 u.length (u64s u) y ∧ F = [(56, osV u.length y)] ∧ B = osC 34 y []) (h := ?_) (k := ?_)
        · rintro F B ⟨bz, rfl, rfl⟩ w2 g2
          refine L.appendU [] (cs := List.replicate k (Value.int .u64 0)) (L2 := []) (y := some (bz, List.replicate k (Value.int .u64 0), k)) (m := k) (u := cutV va (min k a.length) a.length 1) (k := a.length - min k a.length) (news := u64s (a.drop (min k a.length))) ⟨by simp, Nat.le_refl _, ck, by simp⟩ rfl (fun w hw => (rcut.base g2 _ (fun _ h => h)).at hw) (by rw [u64s_len, List.length_drop, Nat.mul_one]) (u64s_ones _) (by unfold maxLen; omega) (by omega) (c := fun y1 hG1 _ => ?_)
          rw [← lu] at hG1 ⊢
          refine L.nil ?_
          exact D.endsP1 (osC 34 y1 []) (hM := by simp) (hR := ⟨y1, by rw [hu, u64s_app, ← u64s_zero, ← hu]; exact hG1, rfl, rfl⟩)
        refine QP.mk1 8 [] (fun F B => ∃ y, osG 1 u.length (u64s u) y ∧ F = [(12, osV u.length y)] ∧ B = osC 34 y []) (h := ?_) (k := ?_)
        · rintro F B ⟨y, hG, rfl, rfl⟩ w2 g2
          refine L.assign (k := ?_)
          refine L.nil ?_
          exact D.endsP1 (osC 34 y []) (hR := ⟨y, hG, rfl, rfl⟩)
        refine QP.fin1 [none, some [], none, none, none, none, none, none, some [1], some [8]] 9 (nds := [[], [], [], [], [], [], [], [], [], []]) (hM := List.Perm.refl _) (k := ?_)
        rintro F B ⟨y2, hG2, rfl, rfl⟩
        rw [List.append_nil]
        repeat (first | refine C.seq ?_ | refine C.region ?_ | refine D.seq ?_ | refine L.move (k := ?_))
        refine keepG hK1 hG2 (fun x hx => hx) (fun w2 hK2 => ?_)
        refine callL hK2 hFt (hpre := fun _ hw => hK2.rd (List.mem_cons_of_mem _ (List.mem_cons_of_mem _ List.mem_cons_self)) hw) (k := fun v3 w3 hK3 => ?_)
        repeat (first | refine C.seq ?_ | refine C.region ?_ | refine L.nil ?_ | refine L.move (k := ?_) | refine L.assign (k := ?_) | refine L.extract (c := ?_) | refine D.seqR (h := ?_))
        refine callN hK3 (trimN a A na hA.symm va) (hpre := fun _ hw => hK3.rd (List.mem_cons_of_mem _ (List.mem_cons_of_mem _ (List.mem_cons_of_mem _ List.mem_cons_self))) hw) (k := fun v4 w4 hK4 => ?_)
        have st := hK4.sl List.mem_cons_self
        have sf := hK4.sl (List.mem_cons_of_mem _ List.mem_cons_self)
        have sl := hK4.sl (List.mem_cons_of_mem _ (List.mem_cons_of_mem _ (List.mem_cons_of_mem _ List.mem_cons_self)))
        repeat (first | refine C.seq ?_ | refine C.region ?_ | refine L.nil ?_ | refine L.move (k := ?_) | refine L.assign (k := ?_) | refine L.cm (c := ?_) | refine L.pickF (k := ?_) | refine L.want (k := ?_) | refine D.seqR (h := ?_) | refine L.lenR st (c := ?_) | refine L.lenR sf (c := ?_) | refine L.lenR sl (c := ?_))
        refine L.callQ (natT f a nf na (by rw [vf, hA]) v3 va) (hpre := fun _ hw => ⟨hK4.rd (List.mem_cons_of_mem _ List.mem_cons_self) hw, hK4.rd (List.mem_cons_of_mem _ (List.mem_cons_of_mem _ (List.mem_cons_of_mem _ (List.mem_cons_of_mem _ List.mem_cons_self)))) hw⟩) (k := ?_)
        repeat (first | refine L.move (k := ?_) | refine L.pickF (k := ?_) | refine L.want (k := ?_) | refine L.not (c := ?_) | refine L.lenR st (c := ?_) | refine L.lenR sf (c := ?_) | refine L.lenR sl (c := ?_))
        refine L.callQ (natT (can A) a nA na (by rw [lv_can, hA]) v4 va) (hpre := fun _ hw => ⟨hK4.rd List.mem_cons_self hw, hK4.rd (List.mem_cons_of_mem _ (List.mem_cons_of_mem _ (List.mem_cons_of_mem _ (List.mem_cons_of_mem _ List.mem_cons_self)))) hw⟩) (k := ?_)
        repeat (first | refine L.move (k := ?_) | refine L.pickF (k := ?_) | refine L.want (k := ?_) | refine L.not (c := ?_) | refine L.lenR st (c := ?_) | refine L.lenR sf (c := ?_) | refine L.lenR sl (c := ?_))
        refine L.callQ (trimT A nA v4) (hpre := fun _ hw => hK4.rd List.mem_cons_self hw) (k := ?_)
        repeat (first | refine C.seq ?_ | refine C.region ?_ | refine L.nil ?_ | refine D.seq ?_ | refine L.move (k := ?_) | refine L.cm (c := ?_) | refine C.no (h1 := ?_) | refine L.pickF (k := ?_) | refine L.want (k := ?_) | refine L.not (c := ?_) | refine C.skip ?_ | refine L.lenR st (c := ?_) | refine L.lenR sf (c := ?_) | refine L.lenR sl (c := ?_))
        refine L.callQ (hBi va) (hpre := fun _ hw => hK4.rd (List.mem_cons_of_mem _ (List.mem_cons_of_mem _ (List.mem_cons_of_mem _ (List.mem_cons_of_mem _ List.mem_cons_self)))) hw) (k := ?_)
        repeat (first | refine L.move (k := ?_) | refine L.cm (c := ?_) | refine L.ar (c := ?_) | refine L.pickT (k := ?_) | refine L.pickF (k := ?_) | refine L.want (k := ?_) | refine L.not (c := ?_) | refine L.eqB (c := ?_) | refine L.lenR st (c := ?_) | refine L.lenR sf (c := ?_) | refine L.lenR sl (c := ?_))
        refine L.callQ (bitT a ((bitsN A - 1 : Nat) : Int) true na (by unfold I64'; omega) (by rw [← hA, Int.toNat_natCast, bit_top hz]; simp) va) (hpre := fun _ hw => hK4.rd (List.mem_cons_of_mem _ (List.mem_cons_of_mem _ (List.mem_cons_of_mem _ (List.mem_cons_of_mem _ List.mem_cons_self)))) hw) (k := ?_)
        repeat (first | refine L.move (k := ?_) | refine L.pickT (k := ?_) | refine L.pickF (k := ?_) | refine L.want (k := ?_) | refine L.lenR st (c := ?_) | refine L.lenR sf (c := ?_) | refine L.lenR sl (c := ?_))
        refine callN hK4 (addN (can Lo) u A nLo nu (by rw [lv_can]; exact hsum) v1 (osV u.length y2)) (hpre := fun _ hw => ⟨hK4.rd (List.mem_cons_of_mem _ (List.mem_cons_of_mem _ (List.mem_cons_of_mem _ List.mem_cons_self))) hw, hK4.rd (List.mem_cons_of_mem _ (List.mem_cons_of_mem _ List.mem_cons_self)) hw⟩) (k := fun v5 w5 hK5 => ?_)
        repeat (first | refine L.move (k := ?_) | refine L.want (k := ?_))
        refine L.callQ (natT (can A) a nA na (by rw [lv_can, hA]) v5 va) (hpre := fun _ hw => ⟨hK5.rd List.mem_cons_self hw, hK5.rd (List.mem_cons_of_mem _ (List.mem_cons_of_mem _ (List.mem_cons_of_mem _ (List.mem_cons_of_mem _ (List.mem_cons_of_mem _ List.mem_cons_self))))) hw⟩) (k := ?_)
        have oT := (hK5.fs _ (List.mem_cons_of_mem _ List.mem_cons_self)).2 (show 0 < (can A).length by omega)
        repeat (first | refine L.nil ?_ | refine L.move (k := ?_) | refine L.assign (k := ?_) | refine L.cm (c := ?_) | refine L.ar (c := ?_) | refine L.pickT (k := ?_) | refine L.pickF (k := ?_) | refine L.want (k := ?_) | refine C.ret ?_ | refine D.seqR (h := ?_) | refine L.lenR st (c := ?_) | refine L.lenR sf (c := ?_) | refine L.lenR sl (c := ?_) | refine L.indexR st hmt (c := ?_) | refine L.loadF oT kT (ho := by simp) (c := ?_) | refine L.callQ (hRb) (k := ?_))
        (refine D.ret (vs := [_]) (RV.tmp rfl RV.nil) ?_; intro w' hw; exact Post.mk (is := []) (hK5.bk _ _ hw) List.nodup_nil rfl ⟨rfl, rfl⟩)
    · have d7 : cm .lss ((i / 64 : Nat) : Int) a.length = false := cm_lo' (by omega)
      have hb64 : bitsN A ≤ 64 * a.length := by rw [hA]; exact Nat.le_trans (bitsN_can_le _) (Nat.mul_le_mul_left _ (can_le oa))
      have d8 : cm .lss (i : Int) (bitsN A) = false := cm_lo' (by omega)
      repeat (first | refine L.convI (hz := d3) (c := ?_) | refine C.seq ?_ | refine C.region ?_ | refine L.nil ?_ | refine D.seq ?_ | refine L.move (k := ?_) | refine L.assign (k := ?_) | refine L.cm (c := ?_) | refine L.ar (c := ?_) | refine C.no (h1 := ?_) | refine L.pickF (k := ?_) | refine L.pass (k := ?_) | refine L.not (c := ?_) | refine C.skip ?_ | refine L.callQ (lives_S) (k := ?_) | refine L.lenR sa (c := ?_) | refine L.callQ (hP1) (k := ?_))
      refine L.callQ (bitsS a (bitsN A) na (by rw [hA]) va) (hpre := fun _ hw => hK0.rd List.mem_cons_self hw) (k := ?_)
      repeat (first | refine C.seq ?_ | refine C.region ?_ | refine L.nil ?_ | refine D.seq ?_ | refine L.move (k := ?_) | refine L.assign (k := ?_) | refine L.callQ (hP2) (k := ?_))
      refine callN hK0 (lowN a (k : Int) Lo na (by rw [hlk, hLo]) va) (hpre := fun _ hw => hK0.rd List.mem_cons_self hw) (k := fun v1 w1 hK1 => ?_)
      repeat (first | refine C.seq ?_ | refine L.nil ?_ | refine L.assign (k := ?_) | refine D.seqR (h := ?_))
      have rcut : Rd w1 [] (cutV va (min k a.length) a.length 1) (a.length - min k a.length) (u64s (a.drop (min k a.length))) := by
        obtain ⟨q1, q2⟩ := cutV_sl 1 sa hle (Nat.le_refl _)
        exact Rd.sub (lo := min k a.length) (hi := a.length) (sz := 1) (hK1.fs _ (List.mem_cons_of_mem _ List.mem_cons_self)) (Nat.le_refl _) q1 q2 (fun i u hu => by
          unfold u64s at hu ⊢
          rw [List.getElem?_map, List.getElem?_drop] at hu
          rw [List.getElem?_map, Nat.mul_one]; exact hu)
      refine C.make (M0 := []) (by kernel_rfl) (h := ?_)
      (refine QP.quiet (v := ?_) (by exact rfl) (by exact rfl) (fun w1 g1 => ?_) ?_; rotate_left); repeat (first | refine L.nil ?_ | refine L.move (k := ?_) | exact D.endsQ)
      refine QP.mk0 [] (fun F B => ∃ bz : Nat, F = [(49, .slice (some ⟨bz, 0, none⟩) k k)] ∧ B = [(bz, ob (List.replicate k (Value.int .u64 0)) 34)]) (h := fun w1 g1 => ?_) (k := ?_)
      · refine L.makeZ (m := k) rfl (by omega) ck (c := ?_)
        intro bz
        refine L.nil ?_
        exact D.endsP1 [(bz, ob (List.replicate k (Value.int .u64 0)) 34)] (hR := ⟨bz, rfl, rfl⟩)
      (refine QP.quiet (v := ?_) (by exact rfl) (by exact rfl) (fun w1 g1 => ?_) ?_; rotate_left); repeat (first | refine L.nil ?_ | refine L.move (k := ?_) | exact D.endsQ)
      (refine QP.quiet (v := ?_) (by exact rfl) (by exact rfl) (fun w1 g1 => ?_) ?_; rotate_left); repeat (first | refine L.nil ?_ | refine L.move (k := ?_) | exact D.endsQ)
      (refine QP.quiet (v := ?_) (by exact rfl) (by exact rfl) (fun w1 g1 => ?_) ?_; rotate_left); repeat (first | refine L.nil ?_ | refine L.move (k := ?_) | exact D.endsQ)
      (refine QP.quiet (v := ?_) (by exact rfl) (by exact rfl) (fun w1 g1 => ?_) ?_; rotate_left); repeat (first | refine L.nil ?_ | exact D.endsQ | refine L.lenR sa (c := ?_))
      (refine QP.quiet (v := ?_) (by exact rfl) (by exact rfl) (fun w1 g1 => ?_) ?_; rotate_left); repeat (first | refine L.nil ?_ | exact D.endsQ | refine L.minI (hz := hmn) (c := ?_))
      (refine QP.quiet (v := ?_) (by exact rfl) (by exact rfl) (fun w1 g1 => ?_) ?_; rotate_left); repeat (first | refine L.nil ?_ | exact D.endsQ | refine L.sliceX (sz := 1) (lo := min k a.length) (hi := a.length) sa hle (Nat.le_refl _) (hy := .inr ⟨_, _, rfl, rfl⟩) (hz := .inl ⟨rfl, rfl⟩) (c := ?_))
      refine QP.mk1 1 [] (fun F B => ∃ y, osG 1 u.length (u64s u) y ∧ F = [(56, osV u.length y)] ∧ B = osC 34 y []) (h := ?_) (k := ?_)
      · rintro F B ⟨bz, rfl, rfl⟩ w2 g2
        refine L.appendU [] (cs := List.replicate k (Value.int .u64 0)) (L2 := []) (y := some (bz, List.replicate k (Value.int .u64 0), k)) (m := k) (u := cutV va (min k a.length) a.length 1) (k := a.length - min k a.length) (news := u64s (a.drop (min k a.length))) ⟨by simp, Nat.le_refl _, ck, by simp⟩ rfl (fun w hw => (rcut.base g2 _ (fun _ h => h)).at hw) (by rw [u64s_len, List.length_drop, Nat.mul_one]) (u64s_ones _) (by unfold maxLen; omega) (by omega) (c := fun y1 hG1 _ => ?_)
        rw [← lu] at hG1 ⊢
        refine L.nil ?_
        exact D.endsP1 (osC 34 y1 []) (hM := by simp) (hR := ⟨y1, by rw [hu, u64s_app, ← u64s_zero, ← hu]; exact hG1, rfl, rfl⟩)
      refine QP.mk1 8 [] (fun F B => ∃ y, osG 1 u.length (u64s u) y ∧ F = [(12, osV u.length y)] ∧ B = osC 34 y []) (h := ?_) (k := ?_)
      · rintro F B ⟨y, hG, rfl, rfl⟩ w2 g2
        refine L.assign (k := ?_)
        refine L.nil ?_
        exact D.endsP1 (osC 34 y []) (hR := ⟨y, hG, rfl, rfl⟩)
      refine QP.fin1 [none, some [], none, none, none, none, none, none, some [1], some [8]] 9 (nds := [[], [], [], [], [], [], [], [], [], []]) (hM := List.Perm.refl _) (k := ?_)
      rintro F B ⟨y2, hG2, rfl, rfl⟩
      rw [List.append_nil]
      repeat (first | refine C.seq ?_ | refine C.region ?_ | refine D.seq ?_ | refine L.move (k := ?_))
      refine keepG hK1 hG2 (fun x hx => hx) (fun w2 hK2 => ?_)
      refine callL hK2 hFt (hpre := fun _ hw => hK2.rd (List.mem_cons_of_mem _ (List.mem_cons_of_mem _ List.mem_cons_self)) hw) (k := fun v3 w3 hK3 => ?_)
      repeat (first | refine C.seq ?_ | refine C.region ?_ | refine L.nil ?_ | refine L.move (k := ?_) | refine L.assign (k := ?_) | refine L.extract (c := ?_) | refine D.seqR (h := ?_))
      refine callN hK3 (trimN a A na hA.symm va) (hpre := fun _ hw => hK3.rd (List.mem_cons_of_mem _ (List.mem_cons_of_mem _ (List.mem_cons_of_mem _ List.mem_cons_self))) hw) (k := fun v4 w4 hK4 => ?_)
      have st := hK4.sl List.mem_cons_self
      have sf := hK4.sl (List.mem_cons_of_mem _ List.mem_cons_self)
      have sl := hK4.sl (List.mem_cons_of_mem _ (List.mem_cons_of_mem _ (List.mem_cons_of_mem _ List.mem_cons_self)))
      repeat (first | refine C.seq ?_ | refine C.region ?_ | refine L.nil ?_ | refine L.move (k := ?_) | refine L.assign (k := ?_) | refine L.cm (c := ?_) | refine L.pickF (k := ?_) | refine L.want (k := ?_) | refine D.seqR (h := ?_) | refine L.lenR st (c := ?_) | refine L.lenR sf (c := ?_) | refine L.lenR sl (c := ?_))
      refine L.callQ (natT f a nf na (by rw [vf, hA]) v3 va) (hpre := fun _ hw => ⟨hK4.rd (List.mem_cons_of_mem _ List.mem_cons_self) hw, hK4.rd (List.mem_cons_of_mem _ (List.mem_cons_of_mem _ (List.mem_cons_of_mem _ (List.mem_cons_of_mem _ List.mem_cons_self)))) hw⟩) (k := ?_)
      repeat (first | refine L.move (k := ?_) | refine L.pickF (k := ?_) | refine L.want (k := ?_) | refine L.not (c := ?_) | refine L.lenR st (c := ?_) | refine L.lenR sf (c := ?_) | refine L.lenR sl (c := ?_))
      refine L.callQ (natT (can A) a nA na (by rw [lv_can, hA]) v4 va) (hpre := fun _ hw => ⟨hK4.rd List.mem_cons_self hw, hK4.rd (List.mem_cons_of_mem _ (List.mem_cons_of_mem _ (List.mem_cons_of_mem _ (List.mem_cons_of_mem _ List.mem_cons_self)))) hw⟩) (k := ?_)
      repeat (first | refine L.move (k := ?_) | refine L.pickF (k := ?_) | refine L.want (k := ?_) | refine L.not (c := ?_) | refine L.lenR st (c := ?_) | refine L.lenR sf (c := ?_) | refine L.lenR sl (c := ?_))
      refine L.callQ (trimT A nA v4) (hpre := fun _ hw => hK4.rd List.mem_cons_self hw) (k := ?_)
      repeat (first | refine C.seq ?_ | refine C.region ?_ | refine L.nil ?_ | refine D.seq ?_ | refine L.move (k := ?_) | refine L.cm (c := ?_) | refine C.no (h1 := ?_) | refine L.pickF (k := ?_) | refine L.want (k := ?_) | refine L.not (c := ?_) | refine C.skip ?_ | refine L.lenR st (c := ?_) | refine L.lenR sf (c := ?_) | refine L.lenR sl (c := ?_))
      refine L.callQ (hBi va) (hpre := fun _ hw => hK4.rd (List.mem_cons_of_mem _ (List.mem_cons_of_mem _ (List.mem_cons_of_mem _ (List.mem_cons_of_mem _ List.mem_cons_self)))) hw) (k := ?_)
      repeat (first | refine L.move (k := ?_) | refine L.cm (c := ?_) | refine L.ar (c := ?_) | refine L.pickT (k := ?_) | refine L.pickF (k := ?_) | refine L.want (k := ?_) | refine L.not (c := ?_) | refine L.eqB (c := ?_) | refine L.lenR st (c := ?_) | refine L.lenR sf (c := ?_) | refine L.lenR sl (c := ?_))
      refine L.callQ (bitT a ((bitsN A - 1 : Nat) : Int) true na (by unfold I64'; omega) (by rw [← hA, Int.toNat_natCast, bit_top hz]; simp) va) (hpre := fun _ hw => hK4.rd (List.mem_cons_of_mem _ (List.mem_cons_of_mem _ (List.mem_cons_of_mem _ (List.mem_cons_of_mem _ List.mem_cons_self)))) hw) (k := ?_)
      repeat (first | refine L.move (k := ?_) | refine L.pickT (k := ?_) | refine L.pickF (k := ?_) | refine L.want (k := ?_) | refine L.lenR st (c := ?_) | refine L.lenR sf (c := ?_) | refine L.lenR sl (c := ?_))
      refine callN hK4 (addN (can Lo) u A nLo nu (by rw [lv_can]; exact hsum) v1 (osV u.length y2)) (hpre := fun _ hw => ⟨hK4.rd (List.mem_cons_of_mem _ (List.mem_cons_of_mem _ (List.mem_cons_of_mem _ List.mem_cons_self))) hw, hK4.rd (List.mem_cons_of_mem _ (List.mem_cons_of_mem _ List.mem_cons_self)) hw⟩) (k := fun v5 w5 hK5 => ?_)
      repeat (first | refine L.move (k := ?_) | refine L.want (k := ?_))
      refine L.callQ (natT (can A) a nA na (by rw [lv_can, hA]) v5 va) (hpre := fun _ hw => ⟨hK5.rd List.mem_cons_self hw, hK5.rd (List.mem_cons_of_mem _ (List.mem_cons_of_mem _ (List.mem_cons_of_mem _ (List.mem_cons_of_mem _ (List.mem_cons_of_mem _ List.mem_cons_self))))) hw⟩) (k := ?_)
      have oT := (hK5.fs _ (List.mem_cons_of_mem _ List.mem_cons_self)).2 (show 0 < (can A).length by omega)
      repeat (first | refine L.nil ?_ | refine L.move (k := ?_) | refine L.assign (k := ?_) | refine L.cm (c := ?_) | refine L.ar (c := ?_) | refine L.pickT (k := ?_) | refine L.pickF (k := ?_) | refine L.want (k := ?_) | refine C.ret ?_ | refine D.seqR (h := ?_) | refine L.lenR st (c := ?_) | refine L.lenR sf (c := ?_) | refine L.lenR sl (c := ?_) | refine L.indexR st hmt (c := ?_) | refine L.loadF oT kT (ho := by simp) (c := ?_) | refine L.callQ (hRb) (k := ?_))
      (refine D.ret (vs := [_]) (RV.tmp rfl RV.nil) ?_; intro w' hw; exact Post.mk (is := []) (hK5.bk _ _ hw) List.nodup_nil rfl ⟨rfl, rfl⟩)
theorem _root_.Go.Proofs.YtpemoeincepilaaDoor.natBits_walk (va : Value) (a : List Nat) (bit : Int) (hb : (Lit.int .i64 bit).wf = true) (limbs : Int) (hl : (Lit.int .i64 limbs).wf = true) (w : World) (ha : Nats w va a) :
    Calls Tryd.prog 5 #[va, .int .i64 bit, .int .i64 limbs] w fun e w' => e = .returned (.bool true) ∧ Below w.heap.size w w' :=
  (natbits_S a ha.1 ha.2.1 va bit limbs (int_of_wf hb) (int_of_wf hl)).true w ha.2.2
end Go.Proofs.YtpemoeincepilaaDoor.Nt
