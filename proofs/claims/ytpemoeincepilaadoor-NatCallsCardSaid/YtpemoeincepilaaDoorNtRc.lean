/- The document's answer for chapter 2: Mul, Bits, Bit, Low, Fit. Conditions: at most 300000 limbs. -/
import Derived.Test.YtpemoeincepilaaDoorNtRb
set_option linter.unusedVariables false
set_option linter.unusedSimpArgs false
namespace Go.Proofs.YtpemoeincepilaaDoor.Nt
open Go Go.RowKit SL
attribute [local irreducible] SL.L SL.C SL.D SL.N SL.H SL.QL SL.QW SL.QP

set_option maxRecDepth 100000 in
set_option maxHeartbeats 8000000 in
theorem mul2_S (a0 b0 : List Nat) (x : Nat) (na : nt a0) (nb : nt b0) (hx : lv a0 * lv b0 = x) (va0 vb0 : Value) : Ctr Tryd.prog 38 [va0, vb0] [] (fun w => RdN w [] va0 a0 ∧ RdN w [] vb0 b0) (natR x) := by
  have hTa := trim2N a0 _ na rfl va0
  have hTb := trim2N b0 _ nb rfl vb0
  refine Ctr.enter Tryd.func38 Tryd.ntmps38 rfl rfl (fun w hr => ?_)
  obtain ⟨ra0, rb0⟩ := hr
  repeat (first | refine C.seq ?_ | refine C.region ?_ | refine L.nil ?_ | refine D.seq ?_ | refine L.move (k := ?_) | refine L.assign (k := ?_))
  refine L.callP [] hTa (hpre := fun w hw => ra0.at hw) (k := ?_)
  rintro u B ⟨y0, hG0, rfl, rfl⟩
  rw [hdrop_nil]
  refine L.base (osC 34 y0 []) (M' := []) rfl (fun w2 h2 => ?_)
  have ra2 : RdN w2 [] (osV (can (lv a0)).length y0) (can (lv a0)) := hG0.left h2
  have rb2 : RdN w2 [] vb0 b0 := rb0.at h2
  simp only [shut]
  obtain ⟨va, hva⟩ : ∃ va, va = osV (can (lv a0)).length y0 := ⟨_, rfl⟩
  rw [← hva] at ra2 ⊢
  repeat (first | refine L.move (k := ?_))
  refine L.callP [] hTb (hpre := fun w hw => rb2.at hw) (k := ?_)
  rintro u B ⟨y1, hG1, rfl, rfl⟩
  rw [hdrop_nil]
  refine L.base (osC 34 y1 []) (M' := []) rfl (fun w3 h3 => ?_)
  have rb : RdN w3 [] (osV (can (lv b0)).length y1) (can (lv b0)) := hG1.left h3
  have ra : RdN w3 [] va (can (lv a0)) := ra2.at h3
  simp only [shut]
  obtain ⟨vb, hvb⟩ : ∃ vb, vb = osV (can (lv b0)).length y1 := ⟨_, rfl⟩
  rw [← hvb] at rb ⊢
  have hxx : lv (can (lv a0)) * lv (can (lv b0)) = x := by rw [lv_can, lv_can]; exact hx
  have oa := can_ok (lv a0)
  have ob' := can_ok (lv b0)
  have hla := can_le na.1
  have hlb := can_le nb.1
  have na2 := na.2
  have nb2 := nb.2
  clear hG0 hG1 hTa hTb ra2 rb2 ra0 rb0 hx
  generalize can (lv a0) = a at *
  generalize can (lv b0) = b at *
  have sa := ra.1
  have sb := rb.1
  have c0 : ar .add .i64 (a.length : Int) (b.length : Int) = ((a.length + b.length : Nat) : Int) := i64_add (by omega)
  have cb : a.length + b.length ≤ maxLen := by unfold maxLen; omega
  repeat (first | refine C.seq ?_ | refine C.region ?_ | refine L.nil ?_ | refine D.seq ?_ | refine L.move (k := ?_) | refine L.assign (k := ?_) | refine L.ar (c := ?_) | refine C.block ?_ | refine D.seqR (h := ?_) | refine L.lenR sa (c := ?_) | refine L.lenR sa (c := ?_) | refine L.lenR sb (c := ?_) | (refine L.makeZ (m := a.length + b.length) rfl (by omega) cb (c := ?_); intro bo))
  rw [u64s_zero]
  have sn : SlV (.slice (some ⟨bo, 0, none⟩) (a.length + b.length) (a.length + b.length)) (a.length + b.length) := SlV.mk _ _ (Nat.le_refl _)
  refine C.loop (α := Nat × List Nat) (fun g => g.1 ≤ a.length ∧ g.2.length = a.length + b.length ∧ okL g.2 ∧ lv g.2 = lo a g.1 * lv b ∧ ∀ q, g.1 + b.length ≤ q → lmb g.2 q = 0)
    (fun g => [(1, vb), (5, .slice (some ⟨bo, 0, none⟩) (a.length + b.length) (a.length + b.length)), (0, va), (6, .int .i64 (g.1 : Int))]) (fun g => [(bo, ob (u64s g.2) 34)]) (fun g => a.length - g.1) (0, List.replicate (a.length + b.length) 0)
    (fun a w hs => hs.lessE rfl (lk_cons rfl (lk_cons rfl (lk_cons rfl (lk_cons rfl (fun _ _ h => lk_nil h)))))) ⟨Nat.zero_le _, by simp, (fun x hx => by rw [List.eq_of_mem_replicate hx]; omega), by rw [lo_zero, Nat.zero_mul]; exact lv_zero (fun x hx => List.eq_of_mem_replicate hx), fun q _ => lmb_zero _ _⟩ ?_
  rintro ⟨i, out⟩ ⟨hi, hol, hok, hv, h0⟩
  simp only at hi hol hok hv h0
  dsimp only
  rcases Nat.lt_or_ge i a.length with hlt | hge
  · have c1 : cm .lss (i : Int) a.length = true := cm_lo (by omega)
    have c2 : ar .add .i64 (i : Int) 1 = ((i + 1 : Nat) : Int) := i64_add (b := 1) (by omega)
    have c3 : ar .add .i64 (i : Int) (b.length : Int) = ((i + b.length : Nat) : Int) := i64_add (by omega)
    have oA := ra.2 (by omega)
    have kA := u64s_get (get_lmb hlt)
    have hx := lmb_lt oa i
    repeat (first | refine C.seq ?_ | refine C.region ?_ | refine L.nil ?_ | refine D.seq ?_ | refine L.move (k := ?_) | refine L.assign (k := ?_) | refine L.cm (c := ?_) | refine C.yes (h1 := ?_) | refine C.block ?_ | refine C.skip ?_ | refine L.lenR sa (c := ?_) | refine L.lenR sb (c := ?_) | refine L.indexR sa hlt (c := ?_) | refine L.loadF oA kA (ho := by simp) (c := ?_))
    refine C.loop (α := Nat × List Nat × Nat) (fun g => g.1 ≤ b.length ∧ g.2.1.length = a.length + b.length ∧ okL g.2.1 ∧ g.2.2 < 18446744073709551616 ∧ lv g.2.1 + 18446744073709551616 ^ (i + g.1) * g.2.2 = lo a i * lv b + 18446744073709551616 ^ i * (lmb a i * lo b g.1) ∧ ∀ q, i + b.length ≤ q → lmb g.2.1 q = 0)
      (fun g => [(1, vb), (5, .slice (some ⟨bo, 0, none⟩) (a.length + b.length) (a.length + b.length)), (0, va), (6, .int .i64 (i : Int)), (7, .int .u64 (g.2.2 : Int)), (8, .int .i64 (g.1 : Int))]) (fun g => [(bo, ob (u64s g.2.1) 34)]) (fun g => b.length - g.1) (0, out, 0)
      (fun a w hs => hs.lessE rfl (lk_cons rfl (lk_cons rfl (lk_cons rfl (lk_cons rfl (lk_cons rfl (lk_cons rfl (fun _ _ h => lk_nil h)))))))) ⟨Nat.zero_le _, hol, hok, by simp, by simp only [lo_zero, Nat.mul_zero, Nat.add_zero]; exact hv, h0⟩ ?_
    rintro ⟨k, out', m⟩ ⟨hk, hol', hok', hm, hv', h0'⟩
    simp only at hk hol' hok' hm hv' h0'
    dsimp only
    rcases Nat.lt_or_ge k b.length with hkl | hkg
    · have d1 : cm .lss (k : Int) b.length = true := cm_lo (by omega)
      have d2 : ar .add .i64 (k : Int) 1 = ((k + 1 : Nat) : Int) := i64_add (b := 1) (by omega)
      have d3 : ar .add .i64 (i : Int) (k : Int) = ((i + k : Nat) : Int) := i64_add (by omega)
      have oB := rb.2 (by omega)
      have kB := u64s_get (get_lmb hkl)
      have hy := lmb_lt ob' k
      have hkk : i + k < a.length + b.length := by omega
      have hj : i + k < out'.length := by omega
      have hoo : sO (.slice (some ⟨bo, 0, none⟩) (a.length + b.length) (a.length + b.length)) + (i + k) * 1 = i + k := by simp [sO]
      have kO := u64s_get (get_lmb hj)
      have hjc : i + k < (u64s out').length := by rw [u64s_len]; exact hj
      have ho := lmb_lt hok' (i + k)
      obtain ⟨h, l, he, e1, e2, e3⟩ := mulM_eq hx hy
      have hW := rmul_S (lmb a i : Int) (lmb b k : Int)
      rw [he] at hW
      simp only at hW
      obtain ⟨s, c, hW1, f1, f2⟩ := radd_at false ho e2
      obtain ⟨t, d, hW2, f3, f4⟩ := radd_at false f1 hm
      have hL := mul_limb (s := s) (c := c.toNat) (t := t) (d := d.toNat) hx hy ho hm e3 (by simpa using f2) (by simpa using f4)
      obtain ⟨u, x1, hW3, f5, f6⟩ := radd_at (b := 0) c e1 (by omega)
      obtain ⟨v, x2, hW4, f7, f8⟩ := radd_at (b := 0) d f5 (by omega)
      have hv2 : v = h + c.toNat + d.toNat := by
        have := hL.2
        cases x1 <;> cases x2 <;> simp at f6 f8 <;> omega
      repeat (first | refine C.seq ?_ | refine C.region ?_ | refine L.nil ?_ | refine D.seq ?_ | refine L.move (k := ?_) | refine L.assign (k := ?_) | refine L.cm (c := ?_) | refine L.ar (c := ?_) | refine L.extract (c := ?_) | refine C.yes (h1 := ?_) | refine C.block ?_ | refine D.blkNormal ?_ | refine C.skip ?_ | exact D.endsQ | refine QL.fin ?_ | (refine QL.step (v := ?_) (by exact rfl) (by exact rfl) ?_ ?_; rotate_left) | refine L.lenR sa (c := ?_) | refine L.lenR sb (c := ?_) | refine C.quiet (h := ?_) | refine L.indexR sa hlt (c := ?_) | refine L.loadF oA kA (ho := by simp) (c := ?_) | refine L.indexR sb hkl (c := ?_) | refine L.indexR sn hkk (c := ?_) | refine L.loadF oB kB (ho := by simp) (c := ?_) | refine L.loadK 0 kO hoo (c := ?_) | refine L.storeK 0 hjc hoo (c := ?_) | (refine L.callP [] hW (by exact rfl) (by exact rfl) (by exact rfl) (by decide) (fun _ _ => trivial) ?_; rintro u B ⟨rfl, rfl⟩; rw [hdrop_nil, List.nil_append]) | (refine L.callP [] hW1 (by exact rfl) (by exact rfl) (by exact rfl) (by decide) (fun _ _ => trivial) ?_; rintro u B ⟨rfl, rfl⟩; rw [hdrop_nil, List.nil_append]) | (refine L.callP [] hW2 (by exact rfl) (by exact rfl) (by exact rfl) (by decide) (fun _ _ => trivial) ?_; rintro u B ⟨rfl, rfl⟩; rw [hdrop_nil, List.nil_append]) | (refine L.callP [] hW3 (by exact rfl) (by exact rfl) (by exact rfl) (by decide) (fun _ _ => trivial) ?_; rintro u B ⟨rfl, rfl⟩; rw [hdrop_nil, List.nil_append]) | (refine L.callP [] hW4 (by exact rfl) (by exact rfl) (by exact rfl) (by decide) (fun _ _ => trivial) ?_; rintro u B ⟨rfl, rfl⟩; rw [hdrop_nil, List.nil_append]))
      have hstep := mul_step (b := b) (x := lmb a i) (m' := v) hj hv' (t := t) (by rw [hv2]; exact hL.1)
      refine D.then_ fun a1 w1 hs => ⟨(k + 1, out'.set (i + k) t, v), ⟨hkl, by rw [List.length_set]; exact hol', okL_set hok' f3, f7, hstep, fun q hq => by rw [lmb_set hj, if_neg (by omega)]; exact h0' q hq⟩, by simp only; omega, ?_⟩
      simp only [← u64s_set]
      exact hs.lessE rfl (lk_cons rfl (lk_cons rfl (lk_cons rfl (lk_cons rfl (lk_cons rfl (lk_cons rfl (fun _ _ h => lk_nil h)))))))
    · have d1 : cm .lss (k : Int) b.length = false := cm_lo' (by omega)
      obtain rfl : k = b.length := by omega
      have hkk : i + b.length < a.length + b.length := by omega
      have hj : i + b.length < out'.length := by omega
      have hoo : sO (.slice (some ⟨bo, 0, none⟩) (a.length + b.length) (a.length + b.length)) + (i + b.length) * 1 = i + b.length := by simp [sO]
      have hjc : i + b.length < (u64s out').length := by rw [u64s_len]; exact hj
      rw [show lo b b.length = lv b from lo_all (Nat.le_refl _)] at hv'
      have hrow := mul_row hj (h0' _ (Nat.le_refl _)) hv'
      repeat (first | refine C.seq ?_ | refine C.region ?_ | refine L.nil ?_ | refine D.seq ?_ | refine L.move (k := ?_) | refine L.assign (k := ?_) | refine L.cm (c := ?_) | refine L.ar (c := ?_) | refine C.no (h1 := ?_) | refine D.blkNormal ?_ | refine C.exit ?_ | refine D.thenExit ?_ | refine D.blkExit ?_ | refine D.seqR (h := ?_) | refine L.lenR sa (c := ?_) | refine L.lenR sb (c := ?_) | refine L.indexR sn hkk (c := ?_) | refine L.storeK 0 hjc hoo (c := ?_))
      refine D.then_ fun a1 w1 hs => ⟨(i + 1, out'.set (i + b.length) m), ⟨hlt, by rw [List.length_set]; exact hol', okL_set hok' hm, hrow, fun q hq => by rw [lmb_set hj, if_neg (by omega)]; exact h0' q (by omega)⟩, by simp only; omega, ?_⟩
      simp only [← u64s_set]
      exact hs.lessE rfl (lk_cons rfl (lk_cons rfl (lk_cons rfl (lk_cons rfl (fun _ _ h => lk_nil h)))))
  · have c1 : cm .lss (i : Int) a.length = false := cm_lo' (by omega)
    rw [lo_all hge] at hv
    have hT := trim2_S out _ hok (by omega) rfl (.slice (some ⟨bo, 0, none⟩) (a.length + b.length) (a.length + b.length))
    rw [hv, hxx] at hT
    repeat (first | refine C.seq ?_ | refine C.region ?_ | refine L.nil ?_ | refine D.seq ?_ | refine L.move (k := ?_) | refine L.assign (k := ?_) | refine L.cm (c := ?_) | refine C.no (h1 := ?_) | refine C.ret ?_ | refine C.exit ?_ | refine D.thenExit ?_ | refine D.blkExit ?_ | refine D.seqR (h := ?_) | refine L.lenR sa (c := ?_) | (refine L.callP [] hT (by exact rfl) (by exact rfl) (by exact rfl) (by decide) (fun w hw => by unfold RdN; rw [hol]; exact Rd.own (hw.holds _ List.mem_cons_self) (by simp) (Nat.le_refl _) (a.length + b.length) (by rw [List.take_of_length_le (by rw [u64s_len, hol]; exact Nat.le_refl _)])) ?_; rintro u B ⟨y2, hG2, rfl, rfl⟩; rw [hdrop_nil]))
    rcases y2 with _ | ⟨p1, q1, s1⟩
    · refine D.ret (vs := [osV (can (x)).length none]) (RV.tmp rfl RV.nil) ?_
      intro w' hw
      exact Post.mk (is := []) (At.back h2 (At.back h3 hw)) (by decide) rfl ⟨none, hG2, rfl, rfl⟩
    · refine D.ret (vs := [osV (can (x)).length (some (p1, q1, s1))]) (RV.tmp rfl RV.nil) ?_
      intro w' hw
      exact Post.mk (is := [0]) (At.back h2 (At.back h3 hw)) (by decide) rfl ⟨some (p1, q1, s1), hG2, rfl, rfl⟩
theorem bits2_S (l : List Nat) (x : Nat) (hl : nt l) (hx : bitsN (lv l) = x) (v : Value) : Ctr Tryd.prog 39 [v] [] (fun w => RdN w [] v l) (is (.int .i64 (x : Int)) []) := by
  subst hx
  have hT := trim2N l _ hl rfl v
  have hle := can_le hl.1
  have hl2 := hl.2
  refine Ctr.enter Tryd.func39 Tryd.ntmps39 rfl rfl (fun w hr => ?_)
  repeat (first | refine C.seq ?_ | refine C.region ?_ | refine L.nil ?_ | refine D.seq ?_ | refine L.move (k := ?_) | refine L.assign (k := ?_))
  refine L.callP [] hT (hpre := fun w hw => hr.at hw) (k := ?_)
  rintro u B ⟨y0, hG0, rfl, rfl⟩
  rw [hdrop_nil]
  refine L.base (osC 34 y0 []) (M' := []) rfl (fun w2 h2 => ?_)
  have r' : RdN w2 [] (osV (can (lv l)).length y0) (can (lv l)) := hG0.left h2
  simp only [shut]
  obtain ⟨v', hv'⟩ : ∃ v', v' = osV (can (lv l)).length y0 := ⟨_, rfl⟩
  rw [← hv'] at r' ⊢
  have s' := r'.1
  rcases Nat.eq_zero_or_pos (can (lv l)).length with h0 | hp
  · have c1 : cm .eql ((can (lv l)).length : Int) 0 = true := cm_yes (by omega)
    have hb := bitsN_can_le (lv l)
    rw [show bitsN (lv l) = 0 by omega]
    repeat (first | refine C.seq ?_ | refine C.region ?_ | refine L.nil ?_ | refine D.seq ?_ | refine L.move (k := ?_) | refine L.assign (k := ?_) | refine L.cm (c := ?_) | refine C.yes (h1 := ?_) | refine C.ret ?_ | refine D.thenRet ?_ | refine D.seqR (h := ?_) | refine L.lenR s' (c := ?_))
    (refine D.ret (vs := [_]) (RV.tmp rfl RV.nil) ?_; intro w' hw; exact Post.mk (is := []) (At.back h2 hw) List.nodup_nil rfl ⟨rfl, rfl⟩)
  · obtain ⟨k, hk⟩ : ∃ k, (can (lv l)).length = k + 1 := ⟨(can (lv l)).length - 1, by omega⟩
    have hx := get_lmb (l := can (lv l)) (i := k) (by omega)
    obtain ⟨b1, b2, b3⟩ := bits_can hk hx
    have hg := u64s_get hx
    have o0 := r'.2 hp
    have hx2 : bitsN (lmb (can (lv l)) k) ≤ 64 := bitsN_iff.2 b3
    have hW := rbits_S _ b3
    generalize lmb (can (lv l)) k = x at *
    have c1 : cm .eql ((can (lv l)).length : Int) 0 = false := cm_no (by omega)
    have c2 : ar .sub .i64 ((can (lv l)).length : Int) 1 = (k : Int) := by rw [hk]; exact i64_sub (a := k + 1) (b := 1) (by omega) (by omega)
    have c3 : ar .mul .i64 64 (k : Int) = ((64 * k : Nat) : Int) := i64_mulL (a := 64) (by omega)
    have c4 : ar .add .i64 ((64 * k : Nat) : Int) (bitsN x : Int) = (bitsN (lv l) : Int) := by rw [b2]; exact i64_addL (by omega)
    have hkl : k < (can (lv l)).length := by omega
    repeat (first | refine C.seq ?_ | refine C.region ?_ | refine L.nil ?_ | refine D.seq ?_ | refine L.move (k := ?_) | refine L.assign (k := ?_) | refine L.cm (c := ?_) | refine L.ar (c := ?_) | refine C.no (h1 := ?_) | refine C.ret ?_ | refine C.skip ?_ | refine D.seqR (h := ?_) | refine L.lenR s' (c := ?_) | refine L.indexR s' hkl (c := ?_) | refine L.loadF o0 hg (ho := by simp) (c := ?_) | refine L.callQ (hW) (k := ?_))
    (refine D.ret (vs := [_]) (RV.tmp rfl RV.nil) ?_; intro w' hw; exact Post.mk (is := []) (At.back h2 hw) List.nodup_nil rfl ⟨rfl, rfl⟩)
theorem lowk_if (l : List Nat) (k : Int) : (if (l.length : Int) < (k.toNat : Int) then (l.length : Int) else (k.toNat : Int)) = (lowK l k : Int) := by unfold lowK; split <;> omega
theorem bit2_S (l : List Nat) (i : Int) (x : Bool) (hl : nt l) (hi : I64' i) (hx : (decide (0 ≤ i) && (lv l).testBit i.toNat) = x) (v : Value) : Ctr Tryd.prog 40 [v, .int .i64 i] [] (fun w => RdN w [] v l) (is (.bool x) []) := by
  subst hx
  refine Ctr.enter Tryd.func40 Tryd.ntmps40 rfl rfl (fun w hr => ?_)
  have hi2 := hi.2
  by_cases h0 : 0 ≤ i
  · obtain ⟨n, rfl⟩ := Int.eq_ofNat_of_zero_le h0
    rw [decide_eq_true h0, Bool.true_and, Int.toNat_natCast]
    have hL := limb_S l (by have := hl.2; omega) v (n / 64)
    have c1 : cm .geq (n : Int) 0 = true := cm_ge (by omega)
    have c2 : ar .quo .i64 (n : Int) 64 = ((n / 64 : Nat) : Int) := i64_quo (b := 64) (by omega)
    have c4 : ar .rem .i64 (n : Int) 64 = ((n % 64 : Nat) : Int) := i64_rem (b := 64)
    have d3 : IntKind.u64.wrap ((n % 64 : Nat) : Int) = ((n % 64 : Nat) : Int) := u64_wrap (by omega)
    have hk : arOk .shr .u64  .u64 ((n % 64 : Nat) : Int) = true := decide_eq_true (p := (0 : Int) ≤ ((n % 64 : Nat) : Int)) (by omega)
    have hx := lmb_lt hl.1 (n / 64)
    have c5 : ar .shr .u64 (lmb l (n / 64) : Int) ((n % 64 : Nat) : Int) = ((lmb l (n / 64) / 2 ^ (n % 64) : Nat) : Int) := ar_shrN _ _ (by omega)
    have c6 : ar .and .u64 ((lmb l (n / 64) / 2 ^ (n % 64) : Nat) : Int) 1 = (((lv l).testBit n).toNat : Int) := by
      rw [← bit_at hl.1 n]
      exact ar_andN _ 1 (Nat.lt_of_le_of_lt (Nat.div_le_self _ _) hx) (by omega)
    have c7 : cm .eql (((lv l).testBit n).toNat : Int) 1 = (lv l).testBit n := by cases (lv l).testBit n <;> rfl
    repeat (first | refine L.convI (hz := d3) (c := ?_) | refine L.ar (op := .shr) (ho := hk) (hz := c5) (c := ?_) | refine C.seq ?_ | refine C.region ?_ | refine L.nil ?_ | refine D.seq ?_ | refine L.move (k := ?_) | refine L.assign (k := ?_) | refine L.cm (c := ?_) | refine L.ar (c := ?_) | refine L.pickT (k := ?_) | refine L.want (k := ?_) | refine C.ret ?_ | refine L.callQ hL (hpre := fun w hw => hr.at hw) (k := ?_))
    (refine D.ret (vs := [_]) (RV.tmp rfl RV.nil) ?_; intro w' hw; exact Post.mk (is := []) hw List.nodup_nil rfl ⟨rfl, rfl⟩)
  · have c1 : cm .geq i 0 = false := cm_ge' (by omega)
    rw [decide_eq_false h0, Bool.false_and]
    repeat (first | refine C.seq ?_ | refine C.region ?_ | refine L.nil ?_ | refine D.seq ?_ | refine L.move (k := ?_) | refine L.assign (k := ?_) | refine L.cm (c := ?_) | refine L.pickF (k := ?_) | refine L.pass (k := ?_) | refine C.ret ?_)
    (refine D.ret (vs := [_]) (RV.tmp rfl RV.nil) ?_; intro w' hw; exact Post.mk (is := []) hw List.nodup_nil rfl ⟨rfl, rfl⟩)
theorem low2_S (l : List Nat) (k : Int) (x : Nat) (hl : nt l) (hx : lv (l.take (lowK l k)) = x) (v : Value) : Ctr Tryd.prog 41 [v, .int .i64 k] [] (fun w => RdN w [] v l) (natR x) := by
  have hT := fun u => trim2_S (l.take (lowK l k)) x (okL_take hl.1 _) (by have := hl.2; rw [List.length_take]; omega) hx u
  have hmx : (if 0 < k then k else 0) = (k.toNat : Int) := by split <;> omega
  have hmx2 : (if k > 0 then k else 0) = (k.toNat : Int) := hmx
  have hmx3 : (if (0 : Int) > k then 0 else k) = (k.toNat : Int) := by split <;> omega
  have hmn := lowk_if l k
  have hmn2 : (if (k.toNat : Int) < (l.length : Int) then (k.toNat : Int) else (l.length : Int)) = (lowK l k : Int) := by unfold lowK; split <;> omega
  have hle : lowK l k ≤ l.length := by unfold lowK; omega
  refine Ctr.enter Tryd.func41 Tryd.ntmps41 rfl rfl (fun w hr => ?_)
  have sv := hr.1
  repeat (first | refine C.seq ?_ | refine C.region ?_ | refine L.nil ?_ | refine D.seq ?_ | refine L.move (k := ?_) | refine L.assign (k := ?_) | refine L.lenR sv (c := ?_) | refine L.maxI (hz := hmx) (c := ?_) | refine L.maxI (hz := hmx3) (c := ?_) | refine L.minI (hz := hmn) (c := ?_) | refine L.minI (hz := hmn2) (c := ?_) | (refine L.sliceR (sz := 1) (lo := 0) (hi := lowK l k) sv (Nat.zero_le _) hle (hy := .inl ⟨rfl, rfl⟩) (hz := .inr ⟨_, _, rfl, rfl⟩) (c := ?_); intro v' s' hb'))
  have r' : RdN w [] v' (l.take (lowK l k)) := by
    unfold RdN
    rw [List.length_take, Nat.min_eq_left hle]
    exact Rd.sub (lo := 0) (hi := lowK l k) (sz := 1) hr hle s' hb' (fun i u hu => by
      rw [u64s_take] at hu
      rw [Nat.zero_mul, Nat.zero_add]
      exact take_get hu)
  refine L.callP [] (hT v') (hpre := fun w hw => r'.at hw) (k := ?_)
  rintro u B ⟨y, hG, rfl, rfl⟩
  rw [hdrop_nil]
  repeat (first | refine L.nil ?_ | refine D.seq ?_ | refine L.assign (k := ?_) | refine C.ret ?_)
  refine D.ret (vs := [osV (can x).length y]) (RV.tmp rfl RV.nil) ?_
  intro w' hw
  exact Post.mkD 0 hw (by simp) ⟨y, hG, rfl, rfl⟩
theorem fit2_S (l : List Nat) (k : Int) (f : List Nat) (e : Int) (hl : nt l) (hk : I64' k) (h : fitL (lv l) k = (f, e)) (v : Value) : Ctr Tryd.prog 33 [v, .int .i64 k] [] (fun w => RdN w [] v l) (rowE f e) := by
  have hfe : f = (fitL (lv l) k).1 ∧ e = (fitL (lv l) k).2 := by rw [h]; exact ⟨rfl, rfl⟩
  obtain ⟨rfl, rfl⟩ := hfe
  clear h
  refine Ctr.enter Tryd.func33 Tryd.ntmps33 rfl rfl (fun w hr => ?_)
  have hT := trim2N l _ hl rfl v
  by_cases h1 : k < 0
  · have c1 : cm .lss k 0 = true := cm_lo h1
    have e : fitL (lv l) k = ([], 2) := by unfold fitL; rw [if_pos (.inl h1)]
    rw [e]
    repeat (first | refine C.seq ?_ | refine C.region ?_ | refine L.nil ?_ | refine D.seq ?_ | refine L.move (k := ?_) | refine L.assign (k := ?_) | refine L.cm (c := ?_) | refine C.yes (h1 := ?_) | refine L.pickT (k := ?_) | refine L.pass (k := ?_) | refine C.ret ?_ | refine D.thenRet ?_)
    exact D.ret (vs := [osV 0 none, .int .i64 2]) (RV.tmp rfl (RV.tmp rfl RV.nil)) (fun w' hw => Post.mk (is := []) hw List.nodup_nil rfl ⟨none, osG.nil, rfl, rfl⟩)
  have c1 : cm .lss k 0 = false := cm_lo' (by omega)
  by_cases h2 : 512 < k
  · have c2 : cm .gtr k 512 = true := cm_gt h2
    have e : fitL (lv l) k = ([], 2) := by unfold fitL; rw [if_pos (.inr h2)]
    rw [e]
    repeat (first | refine C.seq ?_ | refine C.region ?_ | refine L.nil ?_ | refine D.seq ?_ | refine L.move (k := ?_) | refine L.assign (k := ?_) | refine L.cm (c := ?_) | refine C.yes (h1 := ?_) | refine L.pickF (k := ?_) | refine L.want (k := ?_) | refine C.ret ?_ | refine D.thenRet ?_)
    exact D.ret (vs := [osV 0 none, .int .i64 2]) (RV.tmp rfl (RV.tmp rfl RV.nil)) (fun w' hw => Post.mk (is := []) hw List.nodup_nil rfl ⟨none, osG.nil, rfl, rfl⟩)
  have c2 : cm .gtr k 512 = false := cm_gt' (by omega)
  obtain ⟨m, rfl⟩ := Int.eq_ofNat_of_zero_le (show 0 ≤ k by omega)
  repeat (first | refine C.seq ?_ | refine C.region ?_ | refine L.nil ?_ | refine D.seq ?_ | refine L.move (k := ?_) | refine L.assign (k := ?_) | refine L.cm (c := ?_) | refine C.no (h1 := ?_) | refine L.pickF (k := ?_) | refine L.want (k := ?_) | refine C.skip ?_)
  refine L.callP [] hT (hpre := fun w hw => hr.at hw) (k := ?_)
  rintro u B ⟨y, hG, rfl, rfl⟩
  rw [hdrop_nil]
  have sy := hG.sl
  by_cases h3 : m < (can (lv l)).length
  · have c3 : cm .gtr ((can (lv l)).length : Int) (m : Int) = true := cm_gt (by omega)
    have e : fitL (lv l) (m : Int) = ([], 3) := by unfold fitL; rw [if_neg (by omega), if_pos (by omega)]
    rw [e]
    repeat (first | refine C.seq ?_ | refine C.region ?_ | refine L.nil ?_ | refine D.seq ?_ | refine L.move (k := ?_) | refine L.assign (k := ?_) | refine L.cm (c := ?_) | refine C.yes (h1 := ?_) | refine C.ret ?_ | refine D.thenRet ?_ | refine L.lenR sy (c := ?_))
    exact D.ret (vs := [osV 0 none, .int .i64 3]) (RV.tmp rfl (RV.tmp rfl RV.nil)) (fun w' hw => Post.mk (is := []) hw List.nodup_nil rfl ⟨none, osG.nil, rfl, rfl⟩)
  · have c3 : cm .gtr ((can (lv l)).length : Int) (m : Int) = false := cm_gt' (by omega)
    have e : fitL (lv l) (m : Int) = (can (lv l) ++ List.replicate (m - (can (lv l)).length) 0, 0) := by unfold fitL; rw [if_neg (by omega), if_neg (by omega), Int.toNat_natCast]
    rw [e]
    have c4 : ar .sub .i64 (m : Int) ((can (lv l)).length : Int) = ((m - (can (lv l)).length : Nat) : Int) := i64_sub (by omega) (by omega)
    repeat (first | refine C.seq ?_ | refine C.region ?_ | refine L.nil ?_ | refine D.seq ?_ | refine L.move (k := ?_) | refine L.assign (k := ?_) | refine L.cm (c := ?_) | refine L.ar (c := ?_) | refine C.no (h1 := ?_) | refine C.skip ?_ | refine L.lenR sy (c := ?_))
    refine L.appendZ [] (L2 := []) (y := y) (m := (can (lv l)).length) (k := m - (can (lv l)).length) hG (by simp) rfl (by omega) (by omega) (c := fun y' hG' _ => ?_)
    simp only [List.nil_append]
    repeat (first | refine L.nil ?_ | refine L.assign (k := ?_) | refine C.ret ?_ | refine D.seqR (h := ?_))
    have hG2 : osG 1 (can (lv l) ++ List.replicate (m - (can (lv l)).length) 0).length (u64s (can (lv l) ++ List.replicate (m - (can (lv l)).length) 0)) y' := by
      rw [u64s_app, ← u64s_zero, List.length_append, List.length_replicate]; exact hG'
    refine D.ret (vs := [osV (can (lv l) ++ List.replicate (m - (can (lv l)).length) 0).length y', .int .i64 0]) (RV.tmp (by rw [List.length_append, List.length_replicate]; rfl) (RV.tmp rfl RV.nil)) ?_
    intro w' hw
    exact Post.mkD 0 hw rfl ⟨y', hG2, rfl, rfl⟩
end Go.Proofs.YtpemoeincepilaaDoor.Nt
