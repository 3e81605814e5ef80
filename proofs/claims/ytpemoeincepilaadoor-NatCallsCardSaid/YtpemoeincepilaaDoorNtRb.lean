/- The document's answer for chapter 2: Add, Sub, Mul, Bits, Bit, Low, Fit. Conditions: at most 300000 limbs. -/
import Derived.Test.YtpemoeincepilaaDoorNtRa
set_option linter.unusedVariables false
set_option linter.unusedSimpArgs false
namespace Go.Proofs.YtpemoeincepilaaDoor.Nt
open Go Go.RowKit SL
attribute [local irreducible] SL.L SL.C SL.D SL.N SL.H SL.QL SL.QW SL.QP

set_option maxRecDepth 100000 in
set_option maxHeartbeats 4000000 in
theorem add2_S (a b : List Nat) (x : Nat) (na : nt a) (nb : nt b) (hx : lv a + lv b = x) (va vb : Value) : Ctr Tryd.prog 37 [va, vb] [] (fun w => RdN w [] va a ∧ RdN w [] vb b) (natR x) := by
  subst hx
  obtain ⟨oa, hla⟩ := na
  obtain ⟨ob', hlb⟩ := nb
  refine Ctr.enter Tryd.func37 Tryd.ntmps37 rfl rfl (fun w hr => ?_)
  obtain ⟨ra, rb⟩ := hr
  have sa := ra.1
  have sb := rb.1
  have hmx := max_if a.length b.length
  repeat (first | refine C.seq ?_ | refine C.region ?_ | refine L.nil ?_ | refine D.seq ?_ | refine L.assign (k := ?_) | refine C.block ?_)
  refine C.loop (α := OS × List Nat × Bool) (fun g => g.2.1.length ≤ max a.length b.length + 1 ∧ osG 1 g.2.1.length (u64s g.2.1) g.1 ∧ addI a b g.2.1.length g.2.1 g.2.2) (fun g => [(0, va), (1, vb), (5, osV g.2.1.length g.1), (6, .bool g.2.2), (7, .int .i64 (g.2.1.length : Int))]) (fun g => osC 34 g.1 []) (fun g => max a.length b.length + 1 - g.2.1.length) (none, [], false)
    (fun a w hs => hs.lessE rfl (lk_cons rfl (lk_cons rfl (lk_cons rfl (lk_cons rfl (lk_cons rfl (fun _ _ h => lk_nil h))))))) ⟨Nat.zero_le _, osG.nil, rfl, (fun _ h => by cases h), by simp [lv, lo_zero]⟩ ?_
  rintro ⟨y, o, c⟩ ⟨hle, hG, hol, hok, hi⟩
  simp only at hle hG hol hok hi
  dsimp only
  rcases Nat.lt_or_ge o.length (max a.length b.length + 1) with hlt2 | hge
  · have d1 : cm .leq (o.length : Int) ((max a.length b.length : Nat) : Int) = true := cm_le (by omega)
    have d2 : ar .add .i64 (o.length : Int) 1 = ((o.length + 1 : Nat) : Int) := i64_add (b := 1) (by omega)
    obtain ⟨s, c', hs0, hs1, hs2⟩ := addM_eq (lmb_lt oa o.length) (lmb_lt ob' o.length) c
    have hW := radd_S (lmb a o.length : Int) (lmb b o.length : Int) c
    rw [hs0] at hW
    have hLa := limb_S a (by omega) va o.length
    have hLb := limb_S b (by omega) vb o.length
    have hm1 : o.length + 1 ≤ maxLen := by unfold maxLen; omega
    repeat (first | refine C.seq ?_ | refine C.region ?_ | refine L.nil ?_ | refine D.seq ?_ | refine L.move (k := ?_) | refine L.assign (k := ?_) | refine L.cm (c := ?_) | refine L.extract (c := ?_) | refine C.yes (h1 := ?_) | refine C.block ?_ | refine C.skip ?_ | refine L.buildS (c := fun _ => ?_) | refine L.lenR sa (c := ?_) | refine L.lenR sb (c := ?_) | refine L.maxI (hz := hmx) (c := ?_) | refine L.callQ hLa (hpre := fun w hw => ra.at hw) (k := ?_) | refine L.callQ hLb (hpre := fun w hw => rb.at hw) (k := ?_) | (refine L.callP [] hW (by exact rfl) (by exact rfl) (by exact rfl) (by decide) (fun _ _ => trivial) ?_; rintro u B ⟨rfl, rfl⟩; rw [hdrop_nil, List.nil_append]))
    rename_i nb1
    refine L.appendU [_] (L2 := []) (y := y) (m := o.length) (u := .slice (some ⟨nb1, 0, none⟩) 1 1) (k := 1) (news := [.int .u64 (s : Int)]) hG rfl (fun w hw => Rd.own (hw.holds _ List.mem_cons_self) (by simp) (Nat.le_refl _) 1 rfl) rfl (u64s_ones [s]) hm1 (by omega) (c := fun y' hG' _ => ?_)
    simp only [List.cons_append, List.nil_append]
    repeat (first | refine C.region ?_ | refine L.nil ?_ | refine L.move (k := ?_) | refine L.assign (k := ?_) | refine L.ar (c := ?_) | refine D.blkNormal ?_ | refine D.seqR (h := ?_))
    have hG2 : osG 1 (o ++ [s]).length (u64s (o ++ [s])) y' := by rw [u64s_app, List.length_append]; exact hG'
    refine D.then_ fun a1 w1 hs => ⟨(y', o ++ [s], c'), ⟨by simp only [List.length_append, List.length_singleton]; omega, hG2, rfl, okL_app hok (ok1 hs1), ?_⟩, by simp only [List.length_append, List.length_singleton]; omega, ?_⟩
    · simp only [List.length_append, List.length_singleton]
      exact add_step rfl hi hs2
    · simp only [List.length_append, List.length_singleton]
      exact hs.lessD 1 rfl (lk_cons rfl (lk_cons rfl (lk_cons rfl (lk_cons rfl (lk_cons rfl (fun _ _ h => lk_nil h))))))
  · have d1 : cm .leq (o.length : Int) ((max a.length b.length : Nat) : Int) = false := cm_le' (by omega)
    have hv := add_end oa ob' rfl hi (by omega)
    have hT := trim2_S o _ hok (by omega) hv (osV o.length y)
    repeat (first | refine C.seq ?_ | refine C.region ?_ | refine L.nil ?_ | refine D.seq ?_ | refine L.move (k := ?_) | refine L.cm (c := ?_) | refine C.no (h1 := ?_) | refine C.exit ?_ | refine D.thenExit ?_ | refine D.blkExit ?_ | refine D.seqR (h := ?_) | refine L.lenR sa (c := ?_) | refine L.lenR sb (c := ?_) | refine L.maxI (hz := hmx) (c := ?_))
    refine L.callP [] hT (hpre := fun w hw => hG.rdm (T := 34) hw (fun x hx => hx)) (k := ?_)
    rintro u B ⟨y2, hG2, rfl, rfl⟩
    rw [hdrop_nil]
    rcases y2 with _ | ⟨p1, q1, s1⟩
    · repeat (first | refine L.nil ?_ | refine D.seq ?_ | refine L.assign (k := ?_) | refine C.ret ?_)
      exact D.ret (vs := [osV (can (lv a + lv b)).length none]) (RV.tmp rfl RV.nil) (fun w' hw => Post.mk (is := []) hw (by decide) rfl ⟨none, hG2, rfl, rfl⟩)
    · simp only [osC, List.nil_append, List.cons_append]
      repeat (first | refine L.nil ?_ | refine L.assign (k := ?_) | refine C.ret ?_ | refine D.seqR (h := ?_))
      exact D.ret (vs := [osV (can (lv a + lv b)).length (some (p1, q1, s1))]) (RV.tmp rfl RV.nil) (fun w' hw => Post.mk (is := [0]) hw (by decide) rfl ⟨some (p1, q1, s1), hG2, rfl, rfl⟩)
set_option maxRecDepth 100000 in
set_option maxHeartbeats 4000000 in
theorem sub2_S (a b : List Nat) (x : Nat) (e : Int) (na : nt a) (nb : nt b) (hx : lv a - lv b = x) (he : (if lv a < lv b then (2 : Int) else 0) = e) (va vb : Value) : Ctr Tryd.prog 31 [va, vb] [] (fun w => RdN w [] va a ∧ RdN w [] vb b) (natE x e) := by
  subst hx
  subst he
  obtain ⟨oa, hla⟩ := na
  obtain ⟨ob', hlb⟩ := nb
  refine Ctr.enter Tryd.func31 Tryd.ntmps31 rfl rfl (fun w hr => ?_)
  obtain ⟨ra, rb⟩ := hr
  have sa := ra.1
  have sb := rb.1
  have hmx := max_if a.length b.length
  have hC := cmp2_S a b (cmpN (lv a) (lv b)) ⟨oa, hla⟩ ⟨ob', hlb⟩ rfl va vb
  by_cases hlt : lv a < lv b
  · have e1 : cm .lss (cmpN (lv a) (lv b)) 0 = true := cm_lo (cmp_lt.2 hlt)
    have hc0 : (can 0).length = 0 := by rw [can_zero]; rfl
    rw [if_pos hlt, show lv a - lv b = 0 by omega]
    repeat (first | refine C.seq ?_ | refine C.region ?_ | refine L.nil ?_ | refine D.seq ?_ | refine L.move (k := ?_) | refine L.assign (k := ?_) | refine L.cm (c := ?_) | refine C.yes (h1 := ?_) | refine C.ret ?_ | refine D.thenRet ?_ | refine L.callQ hC (hpre := fun w hw => ⟨ra.at hw, rb.at hw⟩) (k := ?_))
    exact D.ret (vs := [osV 0 none, .int .i64 2]) (RV.tmp rfl (RV.tmp rfl RV.nil)) (fun w' hw => Post.mk (is := []) hw List.nodup_nil rfl ⟨none, by rw [can_zero]; exact osG.nil, by rw [hc0], rfl⟩)
  have e1 : cm .lss (cmpN (lv a) (lv b)) 0 = false := cm_lo' (by have := (cmp_lt (a := lv a) (b := lv b)).1; omega)
  rw [if_neg hlt]
  repeat (first | refine C.seq ?_ | refine C.region ?_ | refine L.nil ?_ | refine D.seq ?_ | refine L.move (k := ?_) | refine L.assign (k := ?_) | refine L.cm (c := ?_) | refine C.no (h1 := ?_) | refine C.block ?_ | refine C.skip ?_ | refine L.callQ hC (hpre := fun w hw => ⟨ra.at hw, rb.at hw⟩) (k := ?_))
  refine C.loop (α := OS × List Nat × Bool) (fun g => g.2.1.length ≤ max a.length b.length ∧ osG 1 g.2.1.length (u64s g.2.1) g.1 ∧ subI a b g.2.1.length g.2.1 g.2.2) (fun g => [(0, va), (1, vb), (6, osV g.2.1.length g.1), (7, .bool g.2.2), (8, .int .i64 (g.2.1.length : Int))]) (fun g => osC 34 g.1 []) (fun g => max a.length b.length - g.2.1.length) (none, [], false)
    (fun a w hs => hs.lessE rfl (lk_cons rfl (lk_cons rfl (lk_cons rfl (lk_cons rfl (lk_cons rfl (fun _ _ h => lk_nil h))))))) ⟨Nat.zero_le _, osG.nil, rfl, (fun _ h => by cases h), by simp [lv, lo_zero]⟩ ?_
  rintro ⟨y, o, c⟩ ⟨hle, hG, hol, hok, hi⟩
  simp only at hle hG hol hok hi
  dsimp only
  rcases Nat.lt_or_ge o.length (max a.length b.length) with hlt2 | hge
  · have d1 : cm .lss (o.length : Int) ((max a.length b.length : Nat) : Int) = true := cm_lo (by omega)
    have d2 : ar .add .i64 (o.length : Int) 1 = ((o.length + 1 : Nat) : Int) := i64_add (b := 1) (by omega)
    obtain ⟨s, c', hs0, hs1, hs2⟩ := subM_eq (lmb_lt oa o.length) (lmb_lt ob' o.length) c
    have hW := rsub_S (lmb a o.length : Int) (lmb b o.length : Int) c
    rw [hs0] at hW
    have hLa := limb_S a (by omega) va o.length
    have hLb := limb_S b (by omega) vb o.length
    have hm1 : o.length + 1 ≤ maxLen := by unfold maxLen; omega
    repeat (first | refine C.seq ?_ | refine C.region ?_ | refine L.nil ?_ | refine D.seq ?_ | refine L.move (k := ?_) | refine L.assign (k := ?_) | refine L.cm (c := ?_) | refine L.extract (c := ?_) | refine C.yes (h1 := ?_) | refine C.block ?_ | refine C.skip ?_ | refine L.buildS (c := fun _ => ?_) | refine L.lenR sa (c := ?_) | refine L.lenR sb (c := ?_) | refine L.maxI (hz := hmx) (c := ?_) | refine L.callQ hLa (hpre := fun w hw => ra.at hw) (k := ?_) | refine L.callQ hLb (hpre := fun w hw => rb.at hw) (k := ?_) | (refine L.callP [] hW (by exact rfl) (by exact rfl) (by exact rfl) (by decide) (fun _ _ => trivial) ?_; rintro u B ⟨rfl, rfl⟩; rw [hdrop_nil, List.nil_append]))
    rename_i nb1
    refine L.appendU [_] (L2 := []) (y := y) (m := o.length) (u := .slice (some ⟨nb1, 0, none⟩) 1 1) (k := 1) (news := [.int .u64 (s : Int)]) hG rfl (fun w hw => Rd.own (hw.holds _ List.mem_cons_self) (by simp) (Nat.le_refl _) 1 rfl) rfl (u64s_ones [s]) hm1 (by omega) (c := fun y' hG' _ => ?_)
    simp only [List.cons_append, List.nil_append]
    repeat (first | refine C.region ?_ | refine L.nil ?_ | refine L.move (k := ?_) | refine L.assign (k := ?_) | refine L.ar (c := ?_) | refine D.blkNormal ?_ | refine D.seqR (h := ?_))
    have hG2 : osG 1 (o ++ [s]).length (u64s (o ++ [s])) y' := by rw [u64s_app, List.length_append]; exact hG'
    refine D.then_ fun a1 w1 hs => ⟨(y', o ++ [s], c'), ⟨by simp only [List.length_append, List.length_singleton]; omega, hG2, rfl, okL_app hok (ok1 hs1), ?_⟩, by simp only [List.length_append, List.length_singleton]; omega, ?_⟩
    · simp only [List.length_append, List.length_singleton]
      exact sub_step rfl hi hs2
    · simp only [List.length_append, List.length_singleton]
      exact hs.lessD 1 rfl (lk_cons rfl (lk_cons rfl (lk_cons rfl (lk_cons rfl (lk_cons rfl (fun _ _ h => lk_nil h))))))
  · have d1 : cm .lss (o.length : Int) ((max a.length b.length : Nat) : Int) = false := cm_lo' (by omega)
    have hv := sub_end hok rfl hi (by omega) (by cases c <;> simp) oa
    have hcz : c.toNat = 0 := by
      cases c with
      | true => exact absurd (hv.1.1 rfl) hlt
      | false => rfl
    have hT := trim2_S o _ hok (by omega) (hv.2 hcz) (osV o.length y)
    repeat (first | refine C.seq ?_ | refine C.region ?_ | refine L.nil ?_ | refine D.seq ?_ | refine L.move (k := ?_) | refine L.cm (c := ?_) | refine C.no (h1 := ?_) | refine C.exit ?_ | refine D.thenExit ?_ | refine D.blkExit ?_ | refine D.seqR (h := ?_) | refine L.lenR sa (c := ?_) | refine L.lenR sb (c := ?_) | refine L.maxI (hz := hmx) (c := ?_))
    refine L.callP [] hT (hpre := fun w hw => hG.rdm (T := 34) hw (fun x hx => hx)) (k := ?_)
    rintro u B ⟨y2, hG2, rfl, rfl⟩
    rw [hdrop_nil]
    rcases y2 with _ | ⟨p1, q1, s1⟩
    · repeat (first | refine L.nil ?_ | refine D.seq ?_ | refine L.assign (k := ?_) | refine C.ret ?_)
      exact D.ret (vs := [osV (can (lv a - lv b)).length none, .int .i64 0]) (RV.tmp rfl (RV.tmp rfl RV.nil)) (fun w' hw => Post.mk (is := []) hw (by decide) rfl ⟨none, hG2, rfl, rfl⟩)
    · simp only [osC, List.nil_append, List.cons_append]
      repeat (first | refine L.nil ?_ | refine L.assign (k := ?_) | refine C.ret ?_ | refine D.seqR (h := ?_))
      exact D.ret (vs := [osV (can (lv a - lv b)).length (some (p1, q1, s1)), .int .i64 0]) (RV.tmp rfl (RV.tmp rfl RV.nil)) (fun w' hw => Post.mk (is := [0]) hw (by decide) rfl ⟨some (p1, q1, s1), hG2, rfl, rfl⟩)
end Go.Proofs.YtpemoeincepilaaDoor.Nt
