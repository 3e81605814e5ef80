/- keysmithkit.Natural, keysmithlaw02.light, lives, big: what they answer. -/
import Derived.Test.YtpemoeincepilaaDoorNtR
set_option linter.unusedVariables false
set_option linter.unusedSimpArgs false
namespace Go.Proofs.YtpemoeincepilaaDoor.Nt
open Go Go.RowKit SL
attribute [local irreducible] SL.L SL.C SL.D SL.N SL.H SL.QL SL.QW SL.QP

theorem lmb_ne {a b : List Nat} (oa : okL a) (ob' : okL b) {i : Nat} (h : lmb a i ≠ lmb b i) : lv a ≠ lv b := by
  intro e
  have h1 : ∀ k, (lmb a i).testBit k = (lmb b i).testBit k := by
    intro k
    rcases Nat.lt_or_ge k 64 with hk | hk
    · have e1 := lv_bit oa (64 * i + k)
      have e2 := lv_bit ob' (64 * i + k)
      rw [show (64 * i + k) / 64 = i by omega, show (64 * i + k) % 64 = k by omega] at e1 e2
      rw [← e1, ← e2, e]
    · rw [Nat.testBit_lt_two_pow (Nat.lt_of_lt_of_le (lmb_lt oa i) (Nat.pow_le_pow_right (n := 2) (by omega) hk)), Nat.testBit_lt_two_pow (Nat.lt_of_lt_of_le (lmb_lt ob' i) (Nat.pow_le_pow_right (n := 2) (by omega) hk))]
  exact h (Nat.eq_of_testBit_eq h1)
set_option maxHeartbeats 1000000 in
/-- Natural: are they the same number? -/
theorem natural_S (a b : List Nat) (oa : okL a) (ob' : okL b) (hla : a.length ≤ 1000000) (hlb : b.length ≤ 1000000) (va vb : Value) : Ctr Tryd.prog 13 [va, vb] [] (fun w => RdN w [] va a ∧ RdN w [] vb b) (is (.bool (decide (lv a = lv b))) []) := by
  refine Ctr.enter Tryd.func13 Tryd.ntmps13 rfl rfl (fun w hr => ?_)
  obtain ⟨ra, rb⟩ := hr
  have sa := ra.1
  have sb := rb.1
  repeat (first | refine C.seq ?_ | refine C.region ?_ | refine L.nil ?_ | refine D.seq ?_ | refine L.assign (k := ?_) | refine C.block ?_)
  refine C.loop (α := Nat) (fun i => i ≤ max a.length b.length ∧ lo a i = lo b i) (fun i => [(0, va), (1, vb), (5, .int .i64 (i : Int))]) (fun _ => []) (fun i => max a.length b.length - i) 0 (fun a w hs => hs.lessE rfl (lk_cons rfl (lk_cons rfl (lk_cons rfl (fun _ _ h => lk_nil h))))) ⟨Nat.zero_le _, rfl⟩ ?_
  rintro i ⟨hi, he⟩
  have c2 : ar .add .i64 (i : Int) 1 = ((i + 1 : Nat) : Int) := i64_add (b := 1) (by omega)
  have oA := ra.2
  have oB := rb.2
  by_cases hne : lmb a i = lmb b i
  · have c3 : cm .neq (lmb a i : Int) (lmb b i) = false := cm_ne' (by omega)
    have hs : lo a (i + 1) = lo b (i + 1) := by rw [lo_succ, lo_succ, he, hne]
    rcases Nat.lt_or_ge i a.length with ha | ha <;> rcases Nat.lt_or_ge i b.length with hb | hb
    · have oA := oA (by omega)
      have oB := oB (by omega)
      have d1 : cm .lss (i : Int) a.length = true := cm_lo (by omega)
      have d2 : cm .lss (i : Int) b.length = true := cm_lo (by omega)
      have ga := u64s_get (get_lmb ha)
      have gb := u64s_get (get_lmb hb)
      repeat (first | refine C.seq ?_ | refine C.region ?_ | refine L.nil ?_ | refine D.seq ?_ | refine L.move (k := ?_) | refine L.assign (k := ?_) | refine L.cm (c := ?_) | refine L.ar (c := ?_) | refine C.yes (h1 := ?_) | refine C.no (h1 := ?_) | refine L.pickT (k := ?_) | refine L.pass (k := ?_) | refine C.block ?_ | refine D.blkNormal ?_ | refine C.skip ?_ | refine L.lenR sa (c := ?_) | refine L.lenR sb (c := ?_) | refine L.indexR sa ha (c := ?_) | refine L.indexR sb hb (c := ?_) | refine L.loadF oA ga (ho := by simp) (c := ?_) | refine L.loadF oB gb (ho := by simp) (c := ?_))
      exact D.then_ fun a1 w1 hs' => ⟨i + 1, ⟨by omega, hs⟩, by omega, hs'.lessE rfl (lk_cons rfl (lk_cons rfl (lk_cons rfl (fun _ _ h => lk_nil h))))⟩
    · have oA := oA (by omega)
      have d1 : cm .lss (i : Int) a.length = true := cm_lo (by omega)
      have d2 : cm .lss (i : Int) b.length = false := cm_lo' (by omega)
      have ga := u64s_get (get_lmb ha)
      have c4 : cm .neq (lmb a i : Int) 0 = false := by rw [hne, lmb_out hb]; rfl
      repeat (first | refine C.seq ?_ | refine C.region ?_ | refine L.nil ?_ | refine D.seq ?_ | refine L.move (k := ?_) | refine L.assign (k := ?_) | refine L.cm (c := ?_) | refine L.ar (c := ?_) | refine C.yes (h1 := ?_) | refine C.no (h1 := ?_) | refine L.pickT (k := ?_) | refine L.pass (k := ?_) | refine C.block ?_ | refine D.blkNormal ?_ | refine C.skip ?_ | refine L.lenR sa (c := ?_) | refine L.lenR sb (c := ?_) | refine L.indexR sa ha (c := ?_) | refine L.loadF oA ga (ho := by simp) (c := ?_))
      exact D.then_ fun a1 w1 hs' => ⟨i + 1, ⟨by omega, hs⟩, by omega, hs'.lessE rfl (lk_cons rfl (lk_cons rfl (lk_cons rfl (fun _ _ h => lk_nil h))))⟩
    · have oB := oB (by omega)
      have d1 : cm .lss (i : Int) a.length = false := cm_lo' (by omega)
      have d2 : cm .lss (i : Int) b.length = true := cm_lo (by omega)
      have gb := u64s_get (get_lmb hb)
      have c4 : cm .neq 0 (lmb b i : Int) = false := by rw [← hne, lmb_out ha]; rfl
      repeat (first | refine C.seq ?_ | refine C.region ?_ | refine L.nil ?_ | refine D.seq ?_ | refine L.move (k := ?_) | refine L.assign (k := ?_) | refine L.cm (c := ?_) | refine L.ar (c := ?_) | refine C.yes (h1 := ?_) | refine C.no (h1 := ?_) | refine L.pickF (k := ?_) | refine L.want (k := ?_) | refine C.block ?_ | refine D.blkNormal ?_ | refine C.skip ?_ | refine L.lenR sa (c := ?_) | refine L.lenR sb (c := ?_) | refine L.indexR sb hb (c := ?_) | refine L.loadF oB gb (ho := by simp) (c := ?_))
      exact D.then_ fun a1 w1 hs' => ⟨i + 1, ⟨by omega, hs⟩, by omega, hs'.lessE rfl (lk_cons rfl (lk_cons rfl (lk_cons rfl (fun _ _ h => lk_nil h))))⟩
    · have d1 : cm .lss (i : Int) a.length = false := cm_lo' (by omega)
      have d2 : cm .lss (i : Int) b.length = false := cm_lo' (by omega)
      rw [lo_all ha, lo_all hb] at he
      rw [decide_eq_true he]
      repeat (first | refine C.seq ?_ | refine C.region ?_ | refine L.nil ?_ | refine D.seq ?_ | refine L.move (k := ?_) | refine L.assign (k := ?_) | refine L.cm (c := ?_) | refine C.no (h1 := ?_) | refine L.pickF (k := ?_) | refine L.want (k := ?_) | refine C.ret ?_ | refine C.exit ?_ | refine D.thenExit ?_ | refine D.blkExit ?_ | refine L.lenR sa (c := ?_) | refine L.lenR sb (c := ?_))
      (refine D.ret (vs := [_]) (RV.tmp rfl RV.nil) ?_; intro w' hw; exact Post.mk (is := []) hw List.nodup_nil rfl ⟨rfl, rfl⟩)
  · have c3 : cm .neq (lmb a i : Int) (lmb b i) = true := cm_ne (by omega)
    rw [decide_eq_false (lmb_ne oa ob' hne)]
    rcases Nat.lt_or_ge i a.length with ha | ha <;> rcases Nat.lt_or_ge i b.length with hb | hb
    · have oA := oA (by omega)
      have oB := oB (by omega)
      have d1 : cm .lss (i : Int) a.length = true := cm_lo (by omega)
      have d2 : cm .lss (i : Int) b.length = true := cm_lo (by omega)
      have ga := u64s_get (get_lmb ha)
      have gb := u64s_get (get_lmb hb)
      repeat (first | refine C.seq ?_ | refine C.region ?_ | refine L.nil ?_ | refine D.seq ?_ | refine L.move (k := ?_) | refine L.assign (k := ?_) | refine L.cm (c := ?_) | refine C.yes (h1 := ?_) | refine L.pickT (k := ?_) | refine L.pass (k := ?_) | refine C.block ?_ | refine C.ret ?_ | refine D.thenRet ?_ | refine D.blkRet ?_ | refine C.skip ?_ | refine L.lenR sa (c := ?_) | refine L.lenR sb (c := ?_) | refine L.indexR sa ha (c := ?_) | refine L.indexR sb hb (c := ?_) | refine L.loadF oA ga (ho := by simp) (c := ?_) | refine L.loadF oB gb (ho := by simp) (c := ?_))
      (refine D.ret (vs := [_]) (RV.tmp rfl RV.nil) ?_; intro w' hw; exact Post.mk (is := []) hw List.nodup_nil rfl ⟨rfl, rfl⟩)
    · have oA := oA (by omega)
      have d1 : cm .lss (i : Int) a.length = true := cm_lo (by omega)
      have d2 : cm .lss (i : Int) b.length = false := cm_lo' (by omega)
      have ga := u64s_get (get_lmb ha)
      have c4 : cm .neq (lmb a i : Int) 0 = true := by rw [lmb_out hb] at c3; exact c3
      repeat (first | refine C.seq ?_ | refine C.region ?_ | refine L.nil ?_ | refine D.seq ?_ | refine L.move (k := ?_) | refine L.assign (k := ?_) | refine L.cm (c := ?_) | refine C.yes (h1 := ?_) | refine C.no (h1 := ?_) | refine L.pickT (k := ?_) | refine L.pass (k := ?_) | refine C.block ?_ | refine C.ret ?_ | refine D.thenRet ?_ | refine D.blkRet ?_ | refine C.skip ?_ | refine L.lenR sa (c := ?_) | refine L.lenR sb (c := ?_) | refine L.indexR sa ha (c := ?_) | refine L.loadF oA ga (ho := by simp) (c := ?_))
      (refine D.ret (vs := [_]) (RV.tmp rfl RV.nil) ?_; intro w' hw; exact Post.mk (is := []) hw List.nodup_nil rfl ⟨rfl, rfl⟩)
    · have oB := oB (by omega)
      have d1 : cm .lss (i : Int) a.length = false := cm_lo' (by omega)
      have d2 : cm .lss (i : Int) b.length = true := cm_lo (by omega)
      have gb := u64s_get (get_lmb hb)
      have c4 : cm .neq 0 (lmb b i : Int) = true := by rw [lmb_out ha] at c3; exact c3
      repeat (first | refine C.seq ?_ | refine C.region ?_ | refine L.nil ?_ | refine D.seq ?_ | refine L.move (k := ?_) | refine L.assign (k := ?_) | refine L.cm (c := ?_) | refine C.yes (h1 := ?_) | refine C.no (h1 := ?_) | refine L.pickF (k := ?_) | refine L.want (k := ?_) | refine C.block ?_ | refine C.ret ?_ | refine D.thenRet ?_ | refine D.blkRet ?_ | refine C.skip ?_ | refine L.lenR sa (c := ?_) | refine L.lenR sb (c := ?_) | refine L.indexR sb hb (c := ?_) | refine L.loadF oB gb (ho := by simp) (c := ?_))
      (refine D.ret (vs := [_]) (RV.tmp rfl RV.nil) ?_; intro w' hw; exact Post.mk (is := []) hw List.nodup_nil rfl ⟨rfl, rfl⟩)
    · exact absurd (by rw [lmb_out ha, lmb_out hb]) hne
/-- light. -/
theorem light_S (va vb : Value) (na nb : Nat) (ha : SlV va na) (hb : SlV vb nb) (hla : na ≤ maxLen) : Ctr Tryd.prog 16 [va, vb] [] tt (is (.bool (decide (na ≤ 12 ∧ nb ≤ 12))) []) := by
  refine Ctr.enter Tryd.func16 Tryd.ntmps16 rfl rfl (fun w _ => ?_)
  by_cases h1 : na ≤ 12
  · have c1 : cm .leq (na : Int) 12 = true := cm_le (by omega)
    by_cases h2 : nb ≤ 12
    · have c2 : cm .leq (nb : Int) 12 = true := cm_le (by omega)
      rw [decide_eq_true ⟨h1, h2⟩]
      repeat (first | refine C.seq ?_ | refine C.region ?_ | refine L.nil ?_ | refine D.seq ?_ | refine L.move (k := ?_) | refine L.assign (k := ?_) | refine L.cm (c := ?_) | refine L.pickT (k := ?_) | refine L.want (k := ?_) | refine C.ret ?_ | refine L.lenR ha (c := ?_) | refine L.lenR hb (c := ?_))
      (refine D.ret (vs := [_]) (RV.tmp rfl RV.nil) ?_; intro w' hw; exact Post.mk (is := []) hw List.nodup_nil rfl ⟨rfl, rfl⟩)
    · have c2 : cm .leq (nb : Int) 12 = false := cm_le' (by omega)
      rw [decide_eq_false (fun h => h2 h.2)]
      repeat (first | refine C.seq ?_ | refine C.region ?_ | refine L.nil ?_ | refine D.seq ?_ | refine L.move (k := ?_) | refine L.assign (k := ?_) | refine L.cm (c := ?_) | refine L.pickT (k := ?_) | refine L.want (k := ?_) | refine C.ret ?_ | refine L.lenR ha (c := ?_) | refine L.lenR hb (c := ?_))
      (refine D.ret (vs := [_]) (RV.tmp rfl RV.nil) ?_; intro w' hw; exact Post.mk (is := []) hw List.nodup_nil rfl ⟨rfl, rfl⟩)
  · have c1 : cm .leq (na : Int) 12 = false := cm_le' (by omega)
    rw [decide_eq_false (fun h => h1 h.1)]
    repeat (first | refine C.seq ?_ | refine C.region ?_ | refine L.nil ?_ | refine D.seq ?_ | refine L.move (k := ?_) | refine L.assign (k := ?_) | refine L.cm (c := ?_) | refine L.pickF (k := ?_) | refine L.pass (k := ?_) | refine C.ret ?_ | refine L.lenR ha (c := ?_))
    (refine D.ret (vs := [_]) (RV.tmp rfl RV.nil) ?_; intro w' hw; exact Post.mk (is := []) hw List.nodup_nil rfl ⟨rfl, rfl⟩)
end Go.Proofs.YtpemoeincepilaaDoor.Nt
