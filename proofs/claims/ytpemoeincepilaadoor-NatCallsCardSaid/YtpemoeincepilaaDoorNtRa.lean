/- The document's answer for chapters 1 and 2, the lower half: Add, Sub, Mul of words; Trim, limb, Compare, Low, Bit, Bits, Fit of naturals. Conditions: at most 300000 limbs. -/
import Derived.Test.YtpemoeincepilaaDoorNtHl
set_option linter.unusedVariables false
set_option linter.unusedSimpArgs false
namespace Go.Proofs.YtpemoeincepilaaDoor.Nt
open Go Go.RowKit SL
attribute [local irreducible] SL.L SL.C SL.D SL.N SL.H SL.QL SL.QW SL.QP

theorem radd_S (a b : Int) (c : Bool) : Ctr Tryd.prog 60 [.int .u64 a, .int .u64 b, .bool c] [] tt (is2 (.int .u64 (addM a b c).1) (.bool (addM a b c).2)) := by
  refine Ctr.enter Tryd.func60 Tryd.ntmps60 rfl rfl (fun w _ => ?_)
  cases c
  all_goals (repeat' (first | refine C.seq ?_ | refine C.region ?_ | refine L.nil ?_ | refine D.seq ?_ | refine L.move (k := ?_) | refine L.assign (k := ?_) | refine L.cm (c := ?_) | refine L.ar (c := ?_) | refine C.yes (h1 := ?_) | refine C.no (h1 := ?_) | refine L.pickT (k := ?_) | refine L.pickF (k := ?_) | refine L.want (k := ?_) | refine L.pass (k := ?_) | refine C.ret ?_ | refine C.skip ?_ | exact D.endsG | (refine L.orB 2 (b2 := ?_) (h1 := fun hb => ?_) (h2 := fun hb => ?_) (k := ?_); rotate_left)))
  all_goals (refine D.ret (vs := [_, _]) (RV.tmp rfl (RV.tmp rfl RV.nil)) ?_; intro w' hw; exact Post.mk (is := []) hw List.nodup_nil rfl ⟨rfl, rfl⟩)
theorem rsub_S (a b : Int) (c : Bool) : Ctr Tryd.prog 57 [.int .u64 a, .int .u64 b, .bool c] [] tt (is2 (.int .u64 (subM a b c).1) (.bool (subM a b c).2)) := by
  refine Ctr.enter Tryd.func57 Tryd.ntmps57 rfl rfl (fun w _ => ?_)
  cases c
  all_goals (repeat' (first | refine C.seq ?_ | refine C.region ?_ | refine L.nil ?_ | refine D.seq ?_ | refine L.move (k := ?_) | refine L.assign (k := ?_) | refine L.cm (c := ?_) | refine L.ar (c := ?_) | refine C.yes (h1 := ?_) | refine C.no (h1 := ?_) | refine L.pickT (k := ?_) | refine L.pickF (k := ?_) | refine L.want (k := ?_) | refine L.pass (k := ?_) | refine C.ret ?_ | refine C.skip ?_ | exact D.endsG | (refine L.orB 2 (b2 := ?_) (h1 := fun hb => ?_) (h2 := fun hb => ?_) (k := ?_); rotate_left)))
  all_goals (refine D.ret (vs := [_, _]) (RV.tmp rfl (RV.tmp rfl RV.nil)) ?_; intro w' hw; exact Post.mk (is := []) hw List.nodup_nil rfl ⟨rfl, rfl⟩)
theorem rmul_S (a b : Int) : Ctr Tryd.prog 61 [.int .u64 a, .int .u64 b] [] tt (is2 (.int .u64 (mulM a b).1) (.int .u64 (mulM a b).2)) := by
  refine Ctr.enter Tryd.func61 Tryd.ntmps61 rfl rfl (fun w _ => ?_)
  repeat' (first | refine C.seq ?_ | refine C.region ?_ | refine L.nil ?_ | refine D.seq ?_ | refine L.move (k := ?_) | refine L.assign (k := ?_) | refine L.ar (c := ?_) | refine C.ret ?_)
  (refine D.ret (vs := [_, _]) (RV.tmp rfl (RV.tmp rfl RV.nil)) ?_; intro w' hw; exact Post.mk (is := []) hw List.nodup_nil rfl ⟨rfl, rfl⟩)
theorem radd_at {a b : Nat} (c : Bool) (ha : a < 18446744073709551616) (hb : b < 18446744073709551616) : ∃ (s : Nat) (d : Bool), Ctr Tryd.prog 60 [.int .u64 (a : Int), .int .u64 (b : Int), .bool c] [] tt (is2 (.int .u64 (s : Int)) (.bool d)) ∧ s < 18446744073709551616 ∧ s + 18446744073709551616 * d.toNat = a + b + c.toNat := by
  obtain ⟨s, d, he, h1, h2⟩ := addM_eq ha hb c
  have h := radd_S (a : Int) (b : Int) c
  rw [he] at h
  exact ⟨s, d, h, h1, h2⟩
theorem limb_S (l : List Nat) (hl : l.length ≤ 1000000) (v : Value) (i : Nat) : Ctr Tryd.prog 58 [v, .int .i64 (i : Int)] [] (fun w => RdN w [] v l) (is (.int .u64 (lmb l i : Int)) []) := by
  refine Ctr.enter Tryd.func58 Tryd.ntmps58 rfl rfl (fun w hr => ?_)
  have sv := hr.1
  have c0 : cm .geq (i : Int) 0 = true := cm_ge (by omega)
  rcases Nat.lt_or_ge i l.length with h | h
  · have c1 : cm .lss (i : Int) l.length = true := cm_lo (by omega)
    have o0 := hr.2 (by omega)
    have hg := u64s_get (get_lmb h)
    repeat (first | refine C.seq ?_ | refine C.region ?_ | refine L.nil ?_ | refine D.seq ?_ | refine L.move (k := ?_) | refine L.assign (k := ?_) | refine L.cm (c := ?_) | refine C.yes (h1 := ?_) | refine L.pickT (k := ?_) | refine L.want (k := ?_) | refine C.ret ?_ | refine D.thenRet ?_ | refine L.lenR sv (c := ?_) | refine L.indexR sv h (c := ?_) | refine L.loadF o0 hg (ho := by simp) (c := ?_))
    (refine D.ret (vs := [_]) (RV.tmp rfl RV.nil) ?_; intro w' hw; exact Post.mk (is := []) hw List.nodup_nil rfl ⟨rfl, rfl⟩)
  · have c1 : cm .lss (i : Int) l.length = false := cm_lo' (by omega)
    rw [lmb_out h]
    repeat (first | refine C.seq ?_ | refine C.region ?_ | refine L.nil ?_ | refine D.seq ?_ | refine L.move (k := ?_) | refine L.assign (k := ?_) | refine L.cm (c := ?_) | refine C.no (h1 := ?_) | refine L.pickT (k := ?_) | refine L.want (k := ?_) | refine C.ret ?_ | refine C.skip ?_ | refine L.lenR sv (c := ?_))
    (refine D.ret (vs := [_]) (RV.tmp rfl RV.nil) ?_; intro w' hw; exact Post.mk (is := []) hw List.nodup_nil rfl ⟨rfl, rfl⟩)
theorem trim2_S (l : List Nat) (x : Nat) (ho : okL l) (hl : l.length ≤ 1000000) (hx : lv l = x) (v : Value) : Ctr Tryd.prog 35 [v] [] (fun w => RdN w [] v l) (natR x) := by
  subst hx
  refine Ctr.enter Tryd.func35 Tryd.ntmps35 rfl rfl (fun w hr => ?_)
  have sv := hr.1
  repeat (first | refine C.seq ?_ | refine C.region ?_ | refine L.nil ?_ | refine D.seq ?_ | refine L.move (k := ?_) | refine L.assign (k := ?_) | refine C.block ?_ | refine L.lenR sv (c := ?_))
  refine C.loop (α := Nat) (fun n => n ≤ l.length ∧ ∀ x ∈ l.drop n, x = 0) (fun n => [(0, v), (3, .int .i64 (n : Int))]) (fun _ => []) (fun n => n) l.length (fun a w hs => hs.lessE rfl (lk_cons rfl (lk_cons rfl (fun _ _ h => lk_nil h)))) ⟨Nat.le_refl _, by simp⟩ ?_
  rintro n ⟨hn, h0⟩
  have key : ∀ (h1 : n = 0 ∨ ∃ x, l[n - 1]? = some x ∧ x ≠ 0), l.take n = can (lv l) := fun h1 => take_can ho hn h0 h1
  have cutR : ∀ (e : l.take n = can (lv l)), SlV (cutV v 0 n 1) (n - 0) ∧ ∀ w1, RdN w1 [] v l → Rd w1 [] (cutV v 0 n 1) (n - 0) (u64s (can (lv l))) := fun e => by
    obtain ⟨q1, q2⟩ := cutV_sl 1 sv (Nat.zero_le n) hn
    refine ⟨q1, fun w1 h1 => Rd.sub (lo := 0) (hi := n) (sz := 1) h1 hn q1 q2 (fun i u hu => ?_)⟩
    rw [← e, u64s_take] at hu
    rw [Nat.zero_mul, Nat.zero_add]
    exact take_get hu
  rcases Nat.eq_zero_or_pos n with rfl | hp
  · have e := key (.inl rfl)
    have c1 : cm .gtr ((0 : Nat) : Int) 0 = false := rfl
    have hcl : (can (lv l)).length = 0 := by rw [← e]; rfl
    repeat (first | refine C.seq ?_ | refine C.region ?_ | refine L.nil ?_ | refine D.seq ?_ | refine L.move (k := ?_) | refine L.cm (c := ?_) | refine C.no (h1 := ?_) | refine L.pickF (k := ?_) | refine L.pass (k := ?_) | refine C.exit ?_ | refine D.thenExit ?_ | refine D.blkExit ?_)
    refine L.build0 (c := ?_)
    intro y0 hG0
    repeat (first | refine L.move (k := ?_) | refine L.sliceX (sz := 1) (lo := 0) (hi := 0) sv (Nat.le_refl _) hn (hy := .inl ⟨rfl, rfl⟩) (hz := .inr ⟨_, _, rfl, rfl⟩) (c := ?_))
    refine L.appendU [] (L2 := []) (m := 0) (k := 0) (u := cutV v 0 0 1) (news := u64s (can (lv l))) hG0 rfl (fun w hw => (cutR e).2 _ (hr.at hw)) (by rw [u64s_len, hcl]) (u64s_ones _) (by unfold maxLen; omega) (by omega) (c := ?_)
    intro y hG _
    rw [List.nil_append] at hG
    rw [List.nil_append]
    repeat (first | refine L.nil ?_ | refine D.seq ?_ | refine L.assign (k := ?_) | refine C.ret ?_)
    refine D.ret (vs := [osV (0 + 0) y]) (RV.tmp rfl RV.nil) ?_
    intro w' hw
    exact Post.mkD 0 hw rfl ⟨y, by rw [hcl]; exact hG, by rw [hcl], rfl⟩
  · obtain ⟨m, rfl⟩ : ∃ m, n = m + 1 := ⟨n - 1, by omega⟩
    have c1 : cm .gtr ((m + 1 : Nat) : Int) 0 = true := cm_gt (by omega)
    have c2 : ar .sub .i64 ((m + 1 : Nat) : Int) 1 = (m : Int) := i64_sub (a := m + 1) (b := 1) (by omega) (by omega)
    have hml : m < l.length := by omega
    have hx := get_lmb hml
    have o0 := hr.2 (by omega)
    have hg := u64s_get hx
    by_cases hz : lmb l m = 0
    · have c3 : cm .eql (lmb l m : Int) 0 = true := cm_yes (by omega)
      repeat (first | refine C.seq ?_ | refine C.region ?_ | refine L.nil ?_ | refine D.seq ?_ | refine L.move (k := ?_) | refine L.assign (k := ?_) | refine L.cm (c := ?_) | refine L.ar (c := ?_) | refine C.yes (h1 := ?_) | refine L.pickT (k := ?_) | refine L.want (k := ?_) | refine C.block ?_ | refine D.blkNormal ?_ | refine C.skip ?_ | refine L.indexR sv hml (c := ?_) | refine L.loadF o0 hg (ho := by simp) (c := ?_))
      refine D.then_ fun a1 w1 hs => ⟨m, ⟨by omega, fun x hx2 => ?_⟩, by omega, hs.lessE rfl (lk_cons rfl (lk_cons rfl (fun _ _ h => lk_nil h)))⟩
      rw [List.drop_eq_getElem_cons (by omega)] at hx2
      rcases List.mem_cons.1 hx2 with rfl | hx2
      · exact (List.getElem?_eq_some_iff.1 hx).2.trans hz
      · exact h0 x hx2
    · have c3 : cm .eql (lmb l m : Int) 0 = false := cm_no (by omega)
      have e := key (.inr ⟨_, by simpa using hx, hz⟩)
      have hcl : (can (lv l)).length = m + 1 := by rw [← e, List.length_take]; omega
      repeat (first | refine C.seq ?_ | refine C.region ?_ | refine L.nil ?_ | refine D.seq ?_ | refine L.move (k := ?_) | refine L.cm (c := ?_) | refine L.ar (c := ?_) | refine C.no (h1 := ?_) | refine L.pickT (k := ?_) | refine L.want (k := ?_) | refine C.exit ?_ | refine D.thenExit ?_ | refine D.blkExit ?_ | refine L.indexR sv hml (c := ?_) | refine L.loadF o0 hg (ho := by simp) (c := ?_))
      refine L.build0 (c := ?_)
      intro y0 hG0
      repeat (first | refine L.move (k := ?_) | refine L.sliceX (sz := 1) (lo := 0) (hi := m + 1) sv (Nat.zero_le _) hn (hy := .inl ⟨rfl, rfl⟩) (hz := .inr ⟨_, _, rfl, rfl⟩) (c := ?_))
      refine L.appendU [] (L2 := []) (m := 0) (k := m + 1) (u := cutV v 0 (m + 1) 1) (news := u64s (can (lv l))) hG0 rfl (fun w hw => (cutR e).2 _ (hr.at hw)) (by rw [u64s_len, hcl, Nat.mul_one]) (u64s_ones _) (by unfold maxLen; omega) (by omega) (c := ?_)
      intro y hG _
      rw [List.nil_append] at hG
      rw [List.nil_append]
      repeat (first | refine L.nil ?_ | refine D.seq ?_ | refine L.assign (k := ?_) | refine C.ret ?_)
      refine D.ret (vs := [osV (0 + (m + 1)) y]) (RV.tmp rfl RV.nil) ?_
      intro w' hw
      rw [Nat.zero_add] at hG ⊢
      exact Post.mkD 0 hw rfl ⟨y, by rw [hcl]; exact hG, by rw [hcl], rfl⟩
theorem trim2N (l : List Nat) (x : Nat) (hl : nt l) (hx : lv l = x) (v : Value) : Ctr Tryd.prog 35 [v] [] (fun w => RdN w [] v l) (natR x) := trim2_S l x hl.1 (by have := hl.2; omega) hx v
theorem cmp2_S (a b : List Nat) (x : Int) (na : nt a) (nb : nt b) (hx : cmpN (lv a) (lv b) = x) (va vb : Value) : Ctr Tryd.prog 36 [va, vb] [] (fun w => RdN w [] va a ∧ RdN w [] vb b) (is (.int .i64 x) []) := by
  subst hx
  obtain ⟨oa, hla⟩ := na
  obtain ⟨ob', hlb⟩ := nb
  refine Ctr.enter Tryd.func36 Tryd.ntmps36 rfl rfl (fun w hr => ?_)
  obtain ⟨ra, rb⟩ := hr
  have sa := ra.1
  have sb := rb.1
  have hmx := max_if a.length b.length
  have c0 : ar .sub .i64 ((max a.length b.length : Nat) : Int) 1 = ((max a.length b.length : Nat) : Int) - 1 := by
    show IntKind.i64.wrap _ = _
    rw [IntKind.wrap_i64]; omega
  repeat (first | refine C.seq ?_ | refine C.region ?_ | refine L.nil ?_ | refine D.seq ?_ | refine L.move (k := ?_) | refine L.assign (k := ?_) | refine L.ar (c := ?_) | refine C.block ?_ | refine L.lenR sa (c := ?_) | refine L.lenR sb (c := ?_) | refine L.maxI (hz := hmx) (c := ?_))
  refine C.loop (α := Nat) (fun j => j ≤ max a.length b.length ∧ hi a j = hi b j) (fun j => [(0, va), (1, vb), (5, .int .i64 ((j : Int) - 1))]) (fun _ => []) (fun j => j) (max a.length b.length) (fun a w hs => hs.lessE rfl (lk_cons rfl (lk_cons rfl (lk_cons rfl (fun _ _ h => lk_nil h))))) ⟨Nat.le_refl _, by rw [hi_out (by omega), hi_out (by omega)]⟩ ?_
  rintro j ⟨hj, he⟩
  rcases Nat.eq_zero_or_pos j with rfl | hp
  · have c1 : cm .geq (((0 : Nat) : Int) - 1) 0 = false := rfl
    have e : cmpN (lv a) (lv b) = 0 := cmp_zero.2 he
    rw [e]
    repeat (first | refine C.seq ?_ | refine C.region ?_ | refine L.nil ?_ | refine D.seq ?_ | refine L.move (k := ?_) | refine L.assign (k := ?_) | refine L.cm (c := ?_) | refine C.no (h1 := ?_) | refine C.ret ?_ | refine C.exit ?_ | refine D.thenExit ?_ | refine D.blkExit ?_)
    (refine D.ret (vs := [_]) (RV.tmp rfl RV.nil) ?_; intro w' hw; exact Post.mk (is := []) hw List.nodup_nil rfl ⟨rfl, rfl⟩)
  · obtain ⟨i, rfl⟩ : ∃ i, j = i + 1 := ⟨j - 1, by omega⟩
    rw [show (((i + 1 : Nat) : Int) - 1) = (i : Int) by omega]
    have c1 : cm .geq (i : Int) 0 = true := cm_ge (by omega)
    have c7 : ar .sub .i64 (i : Int) 1 = (i : Int) - 1 := by
      show IntKind.i64.wrap _ = _
      rw [IntKind.wrap_i64]; omega
    have hLa := limb_S a (by omega) va i
    have hLb := limb_S b (by omega) vb i
    have ha := hi_step a i
    have hb := hi_step b i
    rcases Nat.lt_trichotomy (lmb a i) (lmb b i) with h | h | h
    · have e := (cmp_hi oa ob' (i := i) (by rw [ha, hb, he]; omega)).1
      rw [e]
      have c2 : cm .lss (lmb a i : Int) (lmb b i) = true := cm_lo (by omega)
      repeat (first | refine C.seq ?_ | refine C.region ?_ | refine L.nil ?_ | refine D.seq ?_ | refine L.move (k := ?_) | refine L.assign (k := ?_) | refine L.cm (c := ?_) | refine C.yes (h1 := ?_) | refine C.block ?_ | refine C.ret ?_ | refine D.thenRet ?_ | refine D.blkRet ?_ | refine C.skip ?_ | refine L.callQ hLa (hpre := fun w hw => ra.at hw) (k := ?_) | refine L.callQ hLb (hpre := fun w hw => rb.at hw) (k := ?_))
      (refine D.ret (vs := [_]) (RV.tmp rfl RV.nil) ?_; intro w' hw; exact Post.mk (is := []) hw List.nodup_nil rfl ⟨rfl, rfl⟩)
    · have c2 : cm .lss (lmb a i : Int) (lmb b i) = false := cm_lo' (by omega)
      have c3 : cm .gtr (lmb a i : Int) (lmb b i) = false := cm_gt' (by omega)
      repeat (first | refine C.seq ?_ | refine C.region ?_ | refine L.nil ?_ | refine D.seq ?_ | refine L.move (k := ?_) | refine L.assign (k := ?_) | refine L.cm (c := ?_) | refine L.ar (c := ?_) | refine C.yes (h1 := ?_) | refine C.no (h1 := ?_) | refine C.block ?_ | refine D.blkNormal ?_ | refine C.skip ?_ | refine L.callQ hLa (hpre := fun w hw => ra.at hw) (k := ?_) | refine L.callQ hLb (hpre := fun w hw => rb.at hw) (k := ?_))
      exact D.then_ fun a1 w1 hs => ⟨i, ⟨by omega, by rw [ha, hb, he, h]⟩, by omega, hs.lessE rfl (lk_cons rfl (lk_cons rfl (lk_cons rfl (fun _ _ h => lk_nil h))))⟩
    · have e := (cmp_hi ob' oa (i := i) (by rw [ha, hb, he]; omega)).2
      rw [e]
      have c2 : cm .lss (lmb a i : Int) (lmb b i) = false := cm_lo' (by omega)
      have c3 : cm .gtr (lmb a i : Int) (lmb b i) = true := cm_gt (by omega)
      repeat (first | refine C.seq ?_ | refine C.region ?_ | refine L.nil ?_ | refine D.seq ?_ | refine L.move (k := ?_) | refine L.assign (k := ?_) | refine L.cm (c := ?_) | refine C.yes (h1 := ?_) | refine C.no (h1 := ?_) | refine C.block ?_ | refine C.ret ?_ | refine D.thenRet ?_ | refine D.blkRet ?_ | refine C.skip ?_ | refine L.callQ hLa (hpre := fun w hw => ra.at hw) (k := ?_) | refine L.callQ hLb (hpre := fun w hw => rb.at hw) (k := ?_))
      (refine D.ret (vs := [_]) (RV.tmp rfl RV.nil) ?_; intro w' hw; exact Post.mk (is := []) hw List.nodup_nil rfl ⟨rfl, rfl⟩)
end Go.Proofs.YtpemoeincepilaaDoor.Nt
