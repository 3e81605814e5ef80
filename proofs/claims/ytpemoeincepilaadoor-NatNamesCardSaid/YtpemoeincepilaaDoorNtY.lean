/- nat.Div: what it answers, told by numbers. Conditions: at most 1000 limbs. -/
import Derived.Test.YtpemoeincepilaaDoorNtX
import Derived.Test.YtpemoeincepilaaDoorSepB2
set_option linter.unusedVariables false
set_option linter.unusedSimpArgs false
namespace Go.Proofs.YtpemoeincepilaaDoor.Nt
open Go Go.RowKit SL
attribute [local irreducible] SL.L SL.C SL.D SL.N SL.H SL.QL SL.QW SL.QP

/-- Two numbers and an error, handed back. -/
def divR (q r : Nat) (e : Int) : Value → Hp → Prop := fun v B => ∃ y z, osG 1 (can q).length (u64s (can q)) y ∧ osG 1 (can r).length (u64s (can r)) z ∧ v = shut [osV (can q).length y, osV (can r).length z, .int .i64 e] ∧ B = osC 34 z (osC 34 y [])
/-- What Div keeps between two bits. -/
structure Dv where
  j : Nat
  q : List Nat
  r : List Nat
  y : OS
set_option maxRecDepth 100000 in
set_option maxHeartbeats 16000000 in
theorem div_S (a b : List Nat) (oa : okL a) (ob' : okL b) (hla : a.length ≤ 1000) (hlb : b.length ≤ 1000) (va vb : Value) : Ctr Tryd.prog 28 [va, vb] [] (fun w => RdN w [] va a ∧ RdN w [] vb b) (if lv b = 0 then divR 0 0 2 else divR (lv a / lv b) (lv a % lv b) 0) := by
  have hTb := trim_S b ob' (by omega) vb
  have hBt := bits_S a oa (by omega) va
  have hcb := can_le ob'
  refine Ctr.enter Tryd.func28 Tryd.ntmps28 rfl rfl (fun w hr => ?_)
  obtain ⟨ra, rb⟩ := hr
  repeat (first | refine C.seq ?_ | refine C.region ?_ | refine L.nil ?_ | refine D.seq ?_ | refine L.move (k := ?_) | refine L.assign (k := ?_))
  refine L.callP [] hTb (hpre := fun w hw => rb.at hw) (k := ?_)
  rintro u B ⟨y0, hG0, rfl, rfl⟩
  rw [hdrop_nil]
  refine L.base (osC 34 y0 []) (M' := []) rfl (fun w2 h2 => ?_)
  have rb2 : RdN w2 [] (osV (can (lv b)).length y0) (can (lv b)) := hG0.left h2
  have ra2 : RdN w2 [] va a := ra.at h2
  obtain ⟨vc, hvc⟩ : ∃ vc, vc = osV (can (lv b)).length y0 := ⟨_, rfl⟩
  simp only [shut]
  rw [← hvc] at rb2 ⊢
  have sb := rb2.1
  have sa := ra2.1
  have hc0 : (can 0).length = 0 := by rw [can_zero]; rfl
  by_cases hz : lv b = 0
  · rw [if_pos hz]
    have c1 : cm .eql ((can (lv b)).length : Int) 0 = true := by rw [hz, hc0]; rfl
    repeat (first | refine C.seq ?_ | refine C.region ?_ | refine L.nil ?_ | refine D.seq ?_ | refine L.move (k := ?_) | refine L.assign (k := ?_) | refine L.cm (c := ?_) | refine C.yes (h1 := ?_) | refine C.ret ?_ | refine D.thenRet ?_ | refine D.seqR (h := ?_) | refine L.lenR sb (c := ?_))
    exact D.ret (vs := [osV 0 none, osV 0 none, .int .i64 2]) (RV.tmp rfl (RV.tmp rfl (RV.tmp rfl RV.nil))) (fun w' hw => Post.mk (is := []) (At.back h2 hw) List.nodup_nil rfl ⟨none, none, by rw [can_zero]; exact osG.nil, by rw [can_zero]; exact osG.nil, by rw [hc0], rfl⟩)
  rw [if_neg hz]
  have hcp : (can (lv b)).length ≠ 0 := fun h => hz (by have := lv_can (lv b); rw [List.eq_nil_of_length_eq_zero h] at this; exact this.symm)
  have c1 : cm .eql ((can (lv b)).length : Int) 0 = false := cm_no (by omega)
  have hb64 : bitsN (lv a) ≤ 64 * a.length := Nat.le_trans (bitsN_can_le _) (Nat.mul_le_mul_left _ (can_le oa))
  have c3 : ar .sub .i64 (bitsN (lv a) : Int) 1 = (bitsN (lv a) : Int) - 1 := by
    show IntKind.i64.wrap _ = _
    rw [IntKind.wrap_i64]; omega
  have cb : a.length ≤ maxLen := by unfold maxLen; omega
  repeat (first | refine C.seq ?_ | refine C.region ?_ | refine L.nil ?_ | refine D.seq ?_ | refine L.move (k := ?_) | refine L.assign (k := ?_) | refine L.cm (c := ?_) | refine L.ar (c := ?_) | refine C.no (h1 := ?_) | refine C.block ?_ | refine C.skip ?_ | refine D.seqR (h := ?_) | refine L.lenR sb (c := ?_) | refine L.lenR sa (c := ?_) | (refine L.makeZ (m := a.length) rfl (by omega) cb (c := ?_); intro bq) | refine L.callQ hBt (hpre := fun w hw => ra2.at hw) (k := ?_))
  rw [u64s_zero]
  have sq : SlV (.slice (some ⟨bq, 0, none⟩) a.length a.length) a.length := SlV.mk _ _ (Nat.le_refl _)
  obtain ⟨A, hA⟩ : ∃ A, A = lv a := ⟨_, rfl⟩
  obtain ⟨Bn, hBn⟩ : ∃ Bn, Bn = lv b := ⟨_, rfl⟩
  rw [← hA, ← hBn]
  rw [← hA] at hb64
  rw [← hBn] at rb2 sb hz hcb
  refine C.loop (α := Dv) (fun g => g.j ≤ bitsN A ∧ g.q.length = a.length ∧ okL g.q ∧ lv g.q = A / 2 ^ g.j / Bn * 2 ^ g.j ∧ okL g.r ∧ lv g.r = (A / 2 ^ g.j) % Bn ∧ g.r.length + g.j ≤ bitsN A ∧ osG 1 g.r.length (u64s g.r) g.y)
    (fun g => [(0, va), (1, vc), (4, .slice (some ⟨bq, 0, none⟩) a.length a.length), (7, osV g.r.length g.y), (8, .int .i64 ((g.j : Int) - 1))]) (fun g => (bq, ob (u64s g.q) 34) :: osC 34 g.y []) (fun g => g.j) ⟨bitsN A, List.replicate a.length 0, [], none⟩
    (fun a w hs => hs.lessE rfl (lk_cons rfl (lk_cons rfl (lk_cons rfl (lk_cons rfl (lk_cons rfl (fun _ _ h => lk_nil h))))))) ?_ ?_
  · have h0 : A / 2 ^ bitsN A = 0 := Nat.div_eq_of_lt (bitsN_lt A)
    refine ⟨Nat.le_refl _, by simp, (fun x hx => by rw [List.eq_of_mem_replicate hx]; omega), ?_, (fun _ h => by cases h), ?_, by simp, osG.nil⟩
    · simp only [h0, Nat.zero_div, Nat.zero_mul]; exact lv_zero (fun x hx => List.eq_of_mem_replicate hx)
    · simp only [h0, Nat.zero_mod]; rfl
  rintro ⟨j, q, r, y⟩ ⟨hj, hql, hqo, hqv, hro, hrv, hrl, hG⟩
  simp only at hj hql hqo hqv hro hrv hrl hG ⊢
  rcases Nat.eq_zero_or_pos j with rfl | hpos
  · have d1 : cm .geq (((0 : Nat) : Int) - 1) 0 = false := rfl
    have hq0 : lv q = A / Bn := by rw [hqv]; simp
    have hr0 : lv r = A % Bn := by rw [hrv]; simp
    have hTq := trim_S q hqo (by omega) (.slice (some ⟨bq, 0, none⟩) a.length a.length)
    have hTr := trim_S r hro (by omega) (osV r.length y)
    rw [hq0] at hTq
    rw [hr0] at hTr
    repeat (first | refine C.seq ?_ | refine C.region ?_ | refine L.nil ?_ | refine D.seq ?_ | refine L.move (k := ?_) | refine L.cm (c := ?_) | refine C.no (h1 := ?_) | refine C.exit ?_ | refine D.thenExit ?_ | refine D.blkExit ?_ | refine D.seqR (h := ?_))
    refine L.callP [] hTq (hpre := fun w hw => by unfold RdN; rw [hql]; exact Rd.own (hw.holds _ List.mem_cons_self) (by simp) (Nat.le_refl _) a.length (by rw [List.take_of_length_le (by rw [u64s_len, hql]; exact Nat.le_refl _)])) (k := ?_)
    rintro u B ⟨yq, hGq, rfl, rfl⟩
    rw [hdrop_nil]
    have hsub : ∀ x ∈ osC 34 y [], x ∈ osC 34 yq [] ++ (bq, ob (u64s q) 34) :: osC 34 y [] := fun x hx => List.mem_append_right _ (List.mem_cons_of_mem _ hx)
    repeat (first | refine L.move (k := ?_))
    refine L.callP [] hTr (hpre := fun w hw => hG.rdm (T := 34) hw hsub) (k := ?_)
    rintro u B ⟨yr, hGr, rfl, rfl⟩
    rw [hdrop_nil]
    rcases yq with _ | ⟨p1, z1, s1⟩ <;> rcases yr with _ | ⟨p2, z2, s2⟩
    · simp only [osC, List.nil_append, List.cons_append]
      repeat (first | refine L.nil ?_ | refine L.assign (k := ?_) | refine C.ret ?_ | refine D.seqR (h := ?_))
      exact D.ret (vs := [osV (can (A / Bn)).length none, osV (can (A % Bn)).length none, .int .i64 0]) (RV.tmp rfl (RV.tmp rfl (RV.tmp rfl RV.nil))) (fun w' hw => Post.mk (is := []) (At.back h2 hw) (by decide) rfl ⟨none, none, hGq, hGr, rfl, rfl⟩)
    · simp only [osC, List.nil_append, List.cons_append]
      repeat (first | refine L.nil ?_ | refine L.assign (k := ?_) | refine C.ret ?_ | refine D.seqR (h := ?_))
      exact D.ret (vs := [osV (can (A / Bn)).length none, osV (can (A % Bn)).length (some (p2, z2, s2)), .int .i64 0]) (RV.tmp rfl (RV.tmp rfl (RV.tmp rfl RV.nil))) (fun w' hw => Post.mk (is := [0]) (At.back h2 hw) (by decide) rfl ⟨none, some (p2, z2, s2), hGq, hGr, rfl, rfl⟩)
    · simp only [osC, List.nil_append, List.cons_append]
      repeat (first | refine L.nil ?_ | refine L.assign (k := ?_) | refine C.ret ?_ | refine D.seqR (h := ?_))
      exact D.ret (vs := [osV (can (A / Bn)).length (some (p1, z1, s1)), osV (can (A % Bn)).length none, .int .i64 0]) (RV.tmp rfl (RV.tmp rfl (RV.tmp rfl RV.nil))) (fun w' hw => Post.mk (is := [0]) (At.back h2 hw) (by decide) rfl ⟨some (p1, z1, s1), none, hGq, hGr, rfl, rfl⟩)
    · simp only [osC, List.nil_append, List.cons_append]
      repeat (first | refine L.nil ?_ | refine L.assign (k := ?_) | refine C.ret ?_ | refine D.seqR (h := ?_))
      exact D.ret (vs := [osV (can (A / Bn)).length (some (p1, z1, s1)), osV (can (A % Bn)).length (some (p2, z2, s2)), .int .i64 0]) (RV.tmp rfl (RV.tmp rfl (RV.tmp rfl RV.nil))) (fun w' hw => Post.mk (is := [0, 1]) (At.back h2 hw) (by decide) rfl ⟨some (p1, z1, s1), some (p2, z2, s2), hGq, hGr, rfl, rfl⟩)
  · obtain ⟨i, rfl⟩ : ∃ i, j = i + 1 := ⟨j - 1, by omega⟩
    rw [show (((i + 1 : Nat) : Int) - 1) = (i : Int) by omega]
    have hidx : i / 64 < a.length := by omega
    have o0 := ra2.2 (by omega)
    have kx := u64s_get (get_lmb hidx)
    have hx := lmb_lt oa (i / 64)
    have ht1 : (A.testBit i).toNat ≤ 1 := by cases A.testBit i <;> simp
    have d1 : cm .geq (i : Int) 0 = true := cm_ge (by omega)
    have d2 : ar .quo .i64 (i : Int) 64 = ((i / 64 : Nat) : Int) := i64_quo (b := 64) (by omega)
    have d3 : ar .rem .i64 (i : Int) 64 = ((i % 64 : Nat) : Int) := i64_rem (b := 64)
    have hk : arOk .shr .u64 .i64 ((i % 64 : Nat) : Int) = true := decide_eq_true (p := (0 : Int) ≤ ((i % 64 : Nat) : Int)) (by omega)
    have hk2 : arOk .shl .u64 .i64 ((i % 64 : Nat) : Int) = true := hk
    have d4 : ar .shr .u64 (lmb a (i / 64) : Int) ((i % 64 : Nat) : Int) = ((lmb a (i / 64) / 2 ^ (i % 64) : Nat) : Int) := ar_shrN _ _ (by omega)
    have d5 : ar .and .u64 ((lmb a (i / 64) / 2 ^ (i % 64) : Nat) : Int) 1 = ((A.testBit i).toNat : Int) := by
      rw [hA, ← bit_at oa i]
      exact ar_andN _ 1 (Nat.lt_of_le_of_lt (Nat.div_le_self _ _) hx) (by omega)
    have d7 : ar .sub .i64 (i : Int) 1 = (i : Int) - 1 := by
      show IntKind.i64.wrap _ = _
      rw [IntKind.wrap_i64]; omega
    obtain ⟨s1, s2⟩ := div_step (A := A) (b := Bn) (R := lv r) (i := i) hz hrv
    have hS := shift_S r hro (by omega) (A.testBit i).toNat ht1 y hG
    repeat (first | refine L.ar (op := .shr) (ho := hk) (hz := d4) (c := ?_) | refine C.seq ?_ | refine C.region ?_ | refine L.nil ?_ | refine D.seq ?_ | refine L.move (k := ?_) | refine L.cm (c := ?_) | refine L.ar (c := ?_) | refine C.yes (h1 := ?_) | refine C.block ?_ | refine C.skip ?_ | refine L.indexR sa hidx (c := ?_) | refine L.loadF o0 kx (ho := by simp) (c := ?_))
    refine L.callD 1 hS (k := ?_)
    rintro u B ⟨o, y1, hG1, rfl, rfl, hok1, hv1, hl1⟩
    simp only [shut, List.take_succ_cons, List.take_zero, List.take_nil, List.cons_append, List.nil_append]
    have hC := compare_S o (can Bn) hok1 (can_ok Bn) (by omega) (by omega) (osV o.length y1) vc
    rw [lv_can] at hC
    have hsub1 : ∀ x ∈ osC 34 y1 [], x ∈ (bq, ob (u64s q) 34) :: osC 34 y1 [] := fun x hx => List.mem_cons_of_mem _ hx
    by_cases hge : Bn ≤ lv o
    · have e1 : cm .geq (cmpN (lv o) Bn) 0 = true := cm_ge (by unfold cmpN; rw [if_neg (by omega)]; split <;> omega)
      have hSb := sub_S o (can Bn) hok1 (can_ok Bn) (by omega) (by omega) (osV o.length y1) vc
      rw [lv_can, if_neg (by omega)] at hSb
      have hge2 : Bn ≤ 2 * lv r + (A.testBit i).toNat := by omega
      obtain ⟨t1, t2⟩ := s1 hge2
      have hval : lv o - Bn = (A / 2 ^ i) % Bn := by rw [hv1]; exact t1
      have hqd : lv q % 2 ^ (i + 1) = 0 := by rw [hqv]; exact Nat.mul_mod_left _ _
      have hqi : i / 64 < q.length := by omega
      obtain ⟨u1, u2⟩ := or_bit hqo hqi hqd
      have kq := u64s_get (get_lmb hqi)
      have hqc : i / 64 < (u64s q).length := by rw [u64s_len]; exact hqi
      have hp64 : 2 ^ (i % 64) < 18446744073709551616 := Nat.pow_lt_pow_right (n := 64) (by omega) (by omega)
      have f1 : ar .shl .u64 1 ((i % 64 : Nat) : Int) = ((2 ^ (i % 64) : Nat) : Int) := by
        have := ar_shlN 1 (i % 64) (by omega)
        rw [Nat.one_mul, Nat.mod_eq_of_lt hp64] at this; exact this
      have f2 : ar .or .u64 (lmb q (i / 64) : Int) ((2 ^ (i % 64) : Nat) : Int) = ((lmb q (i / 64) ||| 2 ^ (i % 64) : Nat) : Int) := ar_orN _ _ (lmb_lt hqo _) hp64
      have hoo : sO (.slice (some ⟨bq, 0, none⟩) a.length a.length) + (i / 64) * 1 = i / 64 := by simp [sO]
      have hcl : (can (lv o - Bn)).length + i ≤ bitsN A := by
        have := can_len.2 (show lv o - Bn < 18446744073709551616 ^ o.length from Nat.lt_of_le_of_lt (Nat.sub_le _ _) (lv_lt hok1))
        omega
      repeat (first | refine C.seq ?_ | refine C.region ?_ | refine L.nil ?_ | refine D.seq ?_ | refine L.move (k := ?_) | refine L.assign (k := ?_) | refine L.cm (c := ?_) | refine C.yes (h1 := ?_) | refine D.seqR (h := ?_) | refine L.callQ hC (hpre := fun w hw => ⟨hG1.rdm (T := 34) hw hsub1, rb2.at hw⟩) (k := ?_))
      refine L.callP [] hSb (hpre := fun w hw => ⟨hG1.rdm (T := 34) hw hsub1, rb2.at hw⟩) (k := ?_)
      rintro u B ⟨y2, hG2, rfl, rfl⟩
      rw [hdrop_nil]
      rcases y2 with _ | ⟨p2, z2, c2⟩
      · simp only [osC, List.nil_append, List.cons_append]
        repeat (first | refine C.seq ?_ | refine C.region ?_ | refine L.nil ?_ | refine D.seq ?_ | refine L.move (k := ?_) | refine L.assign (k := ?_) | refine L.extract (c := ?_) | refine D.seqR (h := ?_))
        refine C.mixed (h := ?_)
        repeat' (first | refine QW.loadN 0 (i / 64) kq hoo (c := ?_) | refine QW.storeN 0 (i / 64) hqc hoo (c := ?_) | refine L.ar (op := .shl) (ho := hk2) (hz := f1) (c := ?_) | refine L.nil ?_ | refine L.move (k := ?_) | refine L.ar (c := ?_) | exact D.endsQ | (refine QW.free (v := ?_) (by exact rfl) (by exact rfl) (fun w1 hk1 => ?_) ?_; rotate_left) | refine L.indexR sq hidx (c := ?_))
        refine QW.finK [] (ks := [0, 0, 0, 0, 1, 0, 0, 0, 0, 0, 2]) (hx := fun p hp => by cases hp) (h := ?_)
        repeat (first | refine C.region ?_ | refine L.nil ?_ | refine L.move (k := ?_) | refine L.assign (k := ?_) | refine L.ar (c := ?_) | refine D.blkNormal ?_ | refine D.seqR (h := ?_))
        refine D.then_ fun a1 w1 hs => ⟨⟨i, q.set (i / 64) (lmb q (i / 64) ||| 2 ^ (i % 64)), can (lv o - Bn), none⟩, ⟨by simp only; omega, by simp only [List.length_set]; exact hql, u1, by simp only; rw [u2, hqv, t2], can_ok _, by simp only; rw [lv_can]; exact hval, hcl, hG2⟩, by simp only; omega, ?_⟩
        simp only [← u64s_set]
        exact hs.less (is := [0]) (by decide) rfl (lk_cons rfl (lk_cons rfl (lk_cons rfl (lk_cons rfl (lk_cons rfl (fun _ _ h => lk_nil h))))))
      · simp only [osC, List.nil_append, List.cons_append]
        repeat (first | refine C.seq ?_ | refine C.region ?_ | refine L.nil ?_ | refine D.seq ?_ | refine L.move (k := ?_) | refine L.assign (k := ?_) | refine L.extract (c := ?_) | refine D.seqR (h := ?_))
        refine C.mixed (h := ?_)
        repeat' (first | refine QW.loadN 1 (i / 64) kq hoo (c := ?_) | refine QW.storeN 1 (i / 64) hqc hoo (c := ?_) | refine L.ar (op := .shl) (ho := hk2) (hz := f1) (c := ?_) | refine L.nil ?_ | refine L.move (k := ?_) | refine L.ar (c := ?_) | exact D.endsQ | (refine QW.free (v := ?_) (by exact rfl) (by exact rfl) (fun w1 hk1 => ?_) ?_; rotate_left) | refine L.indexR sq hidx (c := ?_))
        refine QW.finK [] (ks := [0, 0, 0, 0, 3, 0, 0, 0, 0, 0, 4]) (hx := fun p hp => by cases hp) (h := ?_)
        repeat (first | refine C.region ?_ | refine L.nil ?_ | refine L.move (k := ?_) | refine L.assign (k := ?_) | refine L.ar (c := ?_) | refine D.blkNormal ?_ | refine D.seqR (h := ?_))
        refine D.then_ fun a1 w1 hs => ⟨⟨i, q.set (i / 64) (lmb q (i / 64) ||| 2 ^ (i % 64)), can (lv o - Bn), some (p2, z2, c2)⟩, ⟨by simp only; omega, by simp only [List.length_set]; exact hql, u1, by simp only; rw [u2, hqv, t2], can_ok _, by simp only; rw [lv_can]; exact hval, hcl, hG2⟩, by simp only; omega, ?_⟩
        simp only [← u64s_set]
        exact hs.less (is := [1, 0]) (by decide) rfl (lk_cons rfl (lk_cons rfl (lk_cons rfl (lk_cons rfl (lk_cons rfl (fun _ _ h => lk_nil h))))))
    · have e1 : cm .geq (cmpN (lv o) Bn) 0 = false := cm_ge' (by unfold cmpN; rw [if_pos (by omega)]; omega)
      obtain ⟨t1, t2⟩ := s2 (by omega)
      repeat (first | refine C.seq ?_ | refine C.region ?_ | refine L.nil ?_ | refine D.seq ?_ | refine L.move (k := ?_) | refine L.assign (k := ?_) | refine L.cm (c := ?_) | refine L.ar (c := ?_) | refine C.no (h1 := ?_) | refine D.blkNormal ?_ | refine C.skip ?_ | refine D.seqR (h := ?_) | refine L.callQ hC (hpre := fun w hw => ⟨hG1.rdm (T := 34) hw hsub1, rb2.at hw⟩) (k := ?_))
      exact D.then_ fun a1 w1 hs => ⟨⟨i, q, o, y1⟩, ⟨by simp only; omega, hql, hqo, by simp only; rw [hqv, t2], hok1, by simp only; rw [hv1]; exact t1, by simp only; omega, hG1⟩, by simp only; omega, hs.lessE rfl (lk_cons rfl (lk_cons rfl (lk_cons rfl (lk_cons rfl (lk_cons rfl (fun _ _ h => lk_nil h))))))⟩
end Go.Proofs.YtpemoeincepilaaDoor.Nt
