/- The document's answer for chapter 2: Div. Conditions: at most 1000 limbs. -/
import Derived.Test.YtpemoeincepilaaDoorNtRc
import Derived.Test.YtpemoeincepilaaDoorNtY
set_option linter.unusedVariables false
set_option linter.unusedSimpArgs false
namespace Go.Proofs.YtpemoeincepilaaDoor.SL
open Go Go.RowKit
section
variable {P : Program} {ops : Array Oper} {Q : Exit → Act → World → Prop} {s : St} {E : Env} {M : Hp} {rest : List Oper}
/-- Memory that is own no longer. -/
theorem L.drop (R : Hp) {M' : Hp} (hp : (R ++ M').Perm M) (k : L P ops Q rest s E M') : L P ops Q rest s E M := by
  intro a w hs
  have h := hs.at_.perm hp
  exact k a w ⟨⟨h.keeps, by
      have := h.nodup; unfold keys at this ⊢; rw [List.map_append, List.nodup_append] at this; exact this.2.1,
    fun x hx => h.mine x (List.mem_append_right _ hx), fun x hx => h.holds x (List.mem_append_right _ hx)⟩, hs.defers, hs.size, hs.env⟩
theorem swap_perm (A : Hp) (x : Nat × Obj) (B : Hp) : (B ++ x :: A).Perm (A ++ x :: B) := by
  refine List.perm_middle.trans (List.Perm.trans ?_ List.perm_middle.symm)
  exact (List.perm_append_comm).cons x
theorem drop2_perm (n x : Nat × Obj) (A B : Hp) : ((n :: A) ++ x :: B).Perm (B ++ n :: x :: A) := by
  refine List.Perm.trans ?_ (List.perm_middle (l₁ := B) (a := n) (l₂ := x :: A)).symm
  exact (swap_perm B x A).cons n
end
end Go.Proofs.YtpemoeincepilaaDoor.SL
namespace Go.Proofs.YtpemoeincepilaaDoor.Nt
open Go Go.RowKit SL
attribute [local irreducible] SL.L SL.C SL.D SL.N SL.H SL.QL SL.QW SL.QP

structure Dw where
  j : Nat
  q : List Nat
  y : OS
set_option maxRecDepth 100000 in
set_option maxHeartbeats 16000000 in
theorem div2_S (a b : List Nat) (na : okL a) (nb0 : okL b) (hla : a.length ≤ 1000) (hlb : b.length ≤ 1000) (va vb : Value) : Ctr Tryd.prog 32 [va, vb] [] (fun w => RdN w [] va a ∧ RdN w [] vb b) (if lv b = 0 then divR 0 0 2 else divR (lv a / lv b) (lv a % lv b) 0) := by
  have nb : nt b := ⟨nb0, by omega⟩
  have hC0 := cmp2_S b [] (if lv b = 0 then 0 else 1) nb ⟨(fun x hx => by cases hx), by simp⟩ (by rw [show lv [] = 0 from rfl]; unfold cmpN; rw [if_neg (by omega)]; by_cases h : lv b = 0 <;> simp [h] <;> omega) vb (.slice none 0 0)
  have hBt := bits2_S a _ ⟨na, by omega⟩ rfl va
  refine Ctr.enter Tryd.func32 Tryd.ntmps32 rfl rfl (fun w hr => ?_)
  obtain ⟨ra, rb⟩ := hr
  have sb := rb.1
  have sa := ra.1
  have hc0 : (can 0).length = 0 := by rw [can_zero]; rfl
  by_cases hz : lv b = 0
  · rw [if_pos hz] at hC0 ⊢
    have c1 : cm .eql (0 : Int) 0 = true := rfl
    repeat (first | refine C.seq ?_ | refine C.region ?_ | refine L.nil ?_ | refine D.seq ?_ | refine L.move (k := ?_) | refine L.assign (k := ?_) | refine L.cm (c := ?_) | refine C.yes (h1 := ?_) | refine C.ret ?_ | refine D.thenRet ?_ | refine L.callQ hC0 (hpre := fun w hw => ⟨rb.at hw, Rd.nil⟩) (k := ?_))
    exact D.ret (vs := [osV 0 none, osV 0 none, .int .i64 2]) (RV.tmp rfl (RV.tmp rfl (RV.tmp rfl RV.nil))) (fun w' hw => Post.mk (is := []) hw List.nodup_nil rfl ⟨none, none, by rw [can_zero]; exact osG.nil, by rw [can_zero]; exact osG.nil, by rw [hc0], rfl⟩)
  rw [if_neg hz] at hC0 ⊢
  have c1 : cm .eql (1 : Int) 0 = false := rfl
  have hb64 : bitsN (lv a) ≤ 64 * a.length := Nat.le_trans (bitsN_can_le _) (Nat.mul_le_mul_left _ (can_le na))
  have c3 : ar .sub .i64 (bitsN (lv a) : Int) 1 = (bitsN (lv a) : Int) - 1 := by
    show IntKind.i64.wrap _ = _
    rw [IntKind.wrap_i64]; omega
  have cb : a.length ≤ maxLen := by unfold maxLen; omega
  repeat (first | refine C.seq ?_ | refine C.region ?_ | refine L.nil ?_ | refine D.seq ?_ | refine L.move (k := ?_) | refine L.assign (k := ?_) | refine L.cm (c := ?_) | refine C.no (h1 := ?_) | refine C.skip ?_ | refine L.callQ hC0 (hpre := fun w hw => ⟨rb.at hw, Rd.nil⟩) (k := ?_) | refine L.lenR sa (c := ?_) | (refine L.makeZ (m := a.length) rfl (by omega) cb (c := ?_); intro bq))
  rw [u64s_zero]
  refine L.build0 (c := ?_)
  intro y0 hG0
  refine L.drop [] (M' := (bq, ob (u64s (List.replicate a.length 0)) 34) :: osC 34 y0 []) (by rw [osC_app 34 y0 [_]]; exact List.perm_append_comm (l₁ := [_])) ?_
  repeat (first | refine C.seq ?_ | refine C.region ?_ | refine L.nil ?_ | refine D.seq ?_ | refine L.move (k := ?_) | refine L.assign (k := ?_) | refine L.ar (c := ?_) | refine C.block ?_ | refine L.callQ hBt (hpre := fun w hw => ra.at hw) (k := ?_))
  have sq : SlV (.slice (some ⟨bq, 0, none⟩) a.length a.length) a.length := SlV.mk _ _ (Nat.le_refl _)
  obtain ⟨A, hA⟩ : ∃ A, A = lv a := ⟨_, rfl⟩
  obtain ⟨Bn, hBn⟩ : ∃ Bn, Bn = lv b := ⟨_, rfl⟩
  rw [← hA, ← hBn]
  rw [← hA] at hb64
  rw [← hBn] at hz
  have hbb : Bn < 18446744073709551616 ^ b.length := by rw [hBn]; exact lv_lt nb0
  refine C.loop (α := Dw) (fun g => g.j ≤ bitsN A ∧ g.q.length = a.length ∧ okL g.q ∧ lv g.q = A / 2 ^ g.j / Bn * 2 ^ g.j ∧ osG 1 (can (A / 2 ^ g.j % Bn)).length (u64s (can (A / 2 ^ g.j % Bn))) g.y)
    (fun g => [(0, va), (1, vb), (7, .slice (some ⟨bq, 0, none⟩) a.length a.length), (8, osV (can (A / 2 ^ g.j % Bn)).length g.y), (9, .int .i64 ((g.j : Int) - 1))]) (fun g => (bq, ob (u64s g.q) 34) :: osC 34 g.y []) (fun g => g.j) ⟨bitsN A, List.replicate a.length 0, y0⟩
    ?_ ?_ ?_
  · intro a1 w hs
    have h0 : A / 2 ^ bitsN A % Bn = 0 := by rw [Nat.div_eq_of_lt (bitsN_lt A), Nat.zero_mod]
    refine hs.lessE rfl (lk_cons rfl (lk_cons rfl (lk_cons rfl (lk_cons (by simp only [h0, hc0]; rfl) (lk_cons (by rw [hA]; rfl) (fun _ _ h => lk_nil h))))))
  · have h0 : A / 2 ^ bitsN A = 0 := Nat.div_eq_of_lt (bitsN_lt A)
    refine ⟨Nat.le_refl _, by simp, (fun x hx => by rw [List.eq_of_mem_replicate hx]; omega), ?_, ?_⟩
    · simp only [h0, Nat.zero_div, Nat.zero_mul]; exact lv_zero (fun x hx => List.eq_of_mem_replicate hx)
    · simp only [h0, Nat.zero_mod, can_zero]; exact hG0
  rintro ⟨j, q, y⟩ ⟨hj, hql, hqo, hqv, hG⟩
  simp only at hj hql hqo hqv hG ⊢
  rcases Nat.eq_zero_or_pos j with rfl | hpos
  · have d1 : cm .geq (((0 : Nat) : Int) - 1) 0 = false := rfl
    have hq0 : lv q = A / Bn := by rw [hqv]; simp
    simp only [Nat.pow_zero, Nat.div_one] at hG
    simp only [Nat.pow_zero, Nat.div_one]
    have hrl : (can (A % Bn)).length ≤ 1000 := Nat.le_trans (can_len.2 (Nat.lt_trans (Nat.mod_lt _ (by omega)) hbb)) hlb
    have hTq := trim2_S q _ hqo (by omega) hq0 (.slice (some ⟨bq, 0, none⟩) a.length a.length)
    have hTr := trim2_S (can (A % Bn)) _ (can_ok _) (by omega) (lv_can _) (osV (can (A % Bn)).length y)
    repeat (first | refine C.seq ?_ | refine C.region ?_ | refine L.nil ?_ | refine D.seq ?_ | refine L.move (k := ?_) | refine L.cm (c := ?_) | refine C.no (h1 := ?_) | refine C.exit ?_ | refine D.thenExit ?_ | refine D.blkExit ?_ | refine D.seqR (h := ?_))
    refine L.callP [] hTq (hpre := fun w hw => by unfold RdN; rw [hql]; exact Rd.own (hw.holds _ List.mem_cons_self) (by simp) (Nat.le_refl _) a.length (by rw [List.take_of_length_le (by rw [u64s_len, hql]; exact Nat.le_refl _)])) (k := ?_)
    rintro u B ⟨yq, hGq, rfl, rfl⟩
    rw [hdrop_nil]
    have hsub : ∀ x ∈ osC 34 y [], x ∈ osC 34 yq [] ++ (bq, ob (u64s q) 34) :: osC 34 y [] := fun x hx => List.mem_append_right _ (List.mem_cons_of_mem _ hx)
    repeat (first | refine L.move (k := ?_))
    refine L.callP [] hTr (hpre := fun w hw => hG.rdm (T := 34) hw hsub) (k := ?_)
    rintro u B ⟨yr, hGr, rfl, rfl⟩
    rw [hdrop_nil]
    rcases yq with _ | ⟨p1, z1, s1⟩ <;> rcases yr with _ | ⟨p2, z2, s2⟩
    · simp only [osC, List.nil_append, List.cons_append]
      repeat (first | refine L.nil ?_ | refine L.assign (k := ?_) | refine C.ret ?_ | refine D.seqR (h := ?_))
      exact D.ret (vs := [osV (can (A / Bn)).length none, osV (can (A % Bn)).length none, .int .i64 0]) (RV.tmp rfl (RV.tmp rfl (RV.tmp rfl RV.nil))) (fun w' hw => Post.mk (is := []) hw (by decide) rfl ⟨none, none, hGq, hGr, rfl, rfl⟩)
    · simp only [osC, List.nil_append, List.cons_append]
      repeat (first | refine L.nil ?_ | refine L.assign (k := ?_) | refine C.ret ?_ | refine D.seqR (h := ?_))
      exact D.ret (vs := [osV (can (A / Bn)).length none, osV (can (A % Bn)).length (some (p2, z2, s2)), .int .i64 0]) (RV.tmp rfl (RV.tmp rfl (RV.tmp rfl RV.nil))) (fun w' hw => Post.mk (is := [0]) hw (by decide) rfl ⟨none, some (p2, z2, s2), hGq, hGr, rfl, rfl⟩)
    · simp only [osC, List.nil_append, List.cons_append]
      repeat (first | refine L.nil ?_ | refine L.assign (k := ?_) | refine C.ret ?_ | refine D.seqR (h := ?_))
      exact D.ret (vs := [osV (can (A / Bn)).length (some (p1, z1, s1)), osV (can (A % Bn)).length none, .int .i64 0]) (RV.tmp rfl (RV.tmp rfl (RV.tmp rfl RV.nil))) (fun w' hw => Post.mk (is := [0]) hw (by decide) rfl ⟨some (p1, z1, s1), none, hGq, hGr, rfl, rfl⟩)
    · simp only [osC, List.nil_append, List.cons_append]
      repeat (first | refine L.nil ?_ | refine L.assign (k := ?_) | refine C.ret ?_ | refine D.seqR (h := ?_))
      exact D.ret (vs := [osV (can (A / Bn)).length (some (p1, z1, s1)), osV (can (A % Bn)).length (some (p2, z2, s2)), .int .i64 0]) (RV.tmp rfl (RV.tmp rfl (RV.tmp rfl RV.nil))) (fun w' hw => Post.mk (is := [0, 1]) hw (by decide) rfl ⟨some (p1, z1, s1), some (p2, z2, s2), hGq, hGr, rfl, rfl⟩)
  · obtain ⟨i, rfl⟩ : ∃ i, j = i + 1 := ⟨j - 1, by omega⟩
    rw [show (((i + 1 : Nat) : Int) - 1) = (i : Int) by omega]
    have hidx : i / 64 < a.length := by omega
    have d1 : cm .geq (i : Int) 0 = true := cm_ge (by omega)
    have d2 : ar .quo .i64 (i : Int) 64 = ((i / 64 : Nat) : Int) := i64_quo (b := 64) (by omega)
    have d3 : ar .rem .i64 (i : Int) 64 = ((i % 64 : Nat) : Int) := i64_rem (b := 64)
    have d8 : IntKind.u64.wrap ((i % 64 : Nat) : Int) = ((i % 64 : Nat) : Int) := u64_wrap (by omega)
    have hk2 : arOk .shl .u64 .u64 ((i % 64 : Nat) : Int) = true := decide_eq_true (p := (0 : Int) ≤ ((i % 64 : Nat) : Int)) (by omega)
    have d7 : ar .sub .i64 (i : Int) 1 = (i : Int) - 1 := by
      show IntKind.i64.wrap _ = _
      rw [IntKind.wrap_i64]; omega
    obtain ⟨R, hR⟩ : ∃ R, R = A / 2 ^ (i + 1) % Bn := ⟨_, rfl⟩
    obtain ⟨s1, s2⟩ := div_step (A := A) (b := Bn) (R := R) (i := i) hz hR
    rw [← hR] at hG ⊢
    have hRb : R < Bn := by rw [hR]; exact Nat.mod_lt _ (by omega)
    have hrl : (can R).length ≤ 1000 := Nat.le_trans (can_len.2 (Nat.lt_trans hRb hbb)) hlb
    have h2p : 2 * R + 1 < 18446744073709551616 ^ (b.length + 1) := by rw [Nat.pow_succ]; omega
    have h2l : (can (2 * R)).length ≤ 300000 := Nat.le_trans (can_len.2 (show 2 * R < 18446744073709551616 ^ (b.length + 1) by omega)) (by omega)
    have h3l : (can (2 * R + 1)).length ≤ 300000 := Nat.le_trans (can_len.2 h2p) (by omega)
    have hB := bit2_S a (i : Int) (A.testBit i) ⟨na, by omega⟩ ⟨by omega, by omega⟩ (by rw [decide_eq_true (show (0 : Int) ≤ (i : Int) by omega), Bool.true_and, Int.toNat_natCast, hA]) va
    have hA1 := add2_S (can R) (can R) (2 * R) ⟨can_ok _, by omega⟩ ⟨can_ok _, by omega⟩ (by rw [lv_can]; omega) (osV (can R).length y) (osV (can R).length y)
    have hqd : lv q % 2 ^ (i + 1) = 0 := by rw [hqv]; exact Nat.mul_mod_left _ _
    have hqi : i / 64 < q.length := by omega
    obtain ⟨u1, u2⟩ := or_bit hqo hqi hqd
    have kq := u64s_get (get_lmb hqi)
    have hqc : i / 64 < (u64s q).length := by rw [u64s_len]; exact hqi
    have hp64 : 2 ^ (i % 64) < 18446744073709551616 := Nat.pow_lt_pow_right (n := 64) (by omega) (by omega)
    have f1 : ar .shl .u64 1 ((i % 64 : Nat) : Int) = ((2 ^ (i % 64) : Nat) : Int) := by
      have := ar_shlN 1 (i % 64) (by omega)
      rw [Nat.one_mul, Nat.mod_eq_of_lt hp64] at this; exact this
    have f2 : ar .or .u64 (lmb q (i / 64) : Int) ((2 ^ (i % 64) : Nat) : Int) = ((lmb q (i / 64) ||| 2 ^ (i % 64) : Nat) : Int) := ar_orN _ _ (lmb_lt hqo _) hp64
    have hoo : sO (.slice (some ⟨bq, 0, none⟩) a.length a.length) + (i / 64) * 1 = i / 64 := by simp [sO]
    repeat (first | refine C.seq ?_ | refine C.region ?_ | refine L.nil ?_ | refine D.seq ?_ | refine L.move (k := ?_) | refine L.cm (c := ?_) | refine C.yes (h1 := ?_) | refine C.block ?_ | refine C.skip ?_)
    cases ht : A.testBit i with
    | false =>
      rw [ht] at hB s1 s2
      refine L.callP [] hA1 (hpre := fun w hw => ⟨hG.rdm (T := 34) hw (fun x hx => List.mem_cons_of_mem _ hx), hG.rdm (T := 34) hw (fun x hx => List.mem_cons_of_mem _ hx)⟩) (k := ?_)
      rintro u B ⟨y1, hGy1, rfl, rfl⟩
      rw [hdrop_nil]
      simp only [shut]
      refine L.drop (osC 34 y []) (M' := (bq, ob (u64s q) 34) :: osC 34 y1 []) (swap_perm _ _ _) ?_
      repeat (first | refine C.seq ?_ | refine C.region ?_ | refine L.nil ?_ | refine D.seq ?_ | refine L.move (k := ?_) | refine L.assign (k := ?_) | refine C.no (h1 := ?_) | refine C.skip ?_ | refine D.seqR (h := ?_) | refine L.callQ hB (hpre := fun w hw => ra.at hw) (k := ?_))
      have hxl := h2l
      have hC := cmp2_S (can (2 * R)) b (cmpN (2 * R) Bn) ⟨can_ok _, hxl⟩ nb (by rw [lv_can, hBn]) (osV (can (2 * R)).length y1) vb
      by_cases hge : Bn ≤ 2 * R
      · have e1 : cm .geq (cmpN (2 * R) Bn) 0 = true := cm_ge (by unfold cmpN; rw [if_neg (by omega)]; split <;> omega)
        obtain ⟨t1, t2⟩ := s1 (by simpa using hge)
        have hSb := sub2_S (can (2 * R)) b ((A / 2 ^ i) % Bn) 0 ⟨can_ok _, hxl⟩ nb (by rw [lv_can, ← hBn, ← t1]; rfl) (by rw [lv_can, ← hBn, if_neg (by omega)]) (osV (can (2 * R)).length y1) vb
        repeat (first | refine C.seq ?_ | refine C.region ?_ | refine L.nil ?_ | refine D.seq ?_ | refine L.move (k := ?_) | refine L.cm (c := ?_) | refine C.yes (h1 := ?_) | refine L.callQ hC (hpre := fun w hw => ⟨hGy1.rdm (T := 34) hw (fun x hx => List.mem_cons_of_mem _ hx), rb.at hw⟩) (k := ?_))
        refine L.callP [] hSb (hpre := fun w hw => ⟨hGy1.rdm (T := 34) hw (fun x hx => List.mem_cons_of_mem _ hx), rb.at hw⟩) (k := ?_)
        rintro u B ⟨y9, hG9, rfl, rfl⟩
        rw [hdrop_nil]
        simp only [shut]
        refine L.drop (osC 34 y1 []) (M' := (bq, ob (u64s q) 34) :: osC 34 y9 []) (swap_perm _ _ _) ?_
        repeat (first | refine L.convI (hz := d8) (c := ?_) | refine L.ar (op := .shl) (ho := hk2) (hz := f1) (c := ?_) | refine C.region ?_ | refine L.nil ?_ | refine L.move (k := ?_) | refine L.assign (k := ?_) | refine L.ar (c := ?_) | refine L.extract (c := ?_) | refine D.blkNormal ?_ | refine D.seqR (h := ?_) | refine L.indexR sq hidx (c := ?_) | refine L.loadK 0 kq hoo (c := ?_) | refine L.storeK 0 hqc hoo (c := ?_))
        refine D.then_ fun a1 w1 hs => ⟨⟨i, q.set (i / 64) (lmb q (i / 64) ||| 2 ^ (i % 64)), y9⟩, ⟨by simp only; omega, by simp only [List.length_set]; exact hql, u1, by simp only; rw [u2, hqv, t2], hG9⟩, by simp only; omega, ?_⟩
        simp only [← u64s_set]
        exact hs.lessE rfl (lk_cons rfl (lk_cons rfl (lk_cons rfl (lk_cons rfl (lk_cons rfl (fun _ _ h => lk_nil h))))))
      · have e1 : cm .geq (cmpN (2 * R) Bn) 0 = false := cm_ge' (by unfold cmpN; rw [if_pos (by omega)]; omega)
        obtain ⟨t1, t2⟩ := s2 (by simpa using hge)
        have t3 : 2 * R = (A / 2 ^ i) % Bn := by simpa using t1
        repeat (first | refine C.region ?_ | refine L.nil ?_ | refine D.seq ?_ | refine L.move (k := ?_) | refine L.assign (k := ?_) | refine L.cm (c := ?_) | refine L.ar (c := ?_) | refine C.no (h1 := ?_) | refine D.blkNormal ?_ | refine C.skip ?_ | refine D.seqR (h := ?_) | refine L.callQ hC (hpre := fun w hw => ⟨hGy1.rdm (T := 34) hw (fun x hx => List.mem_cons_of_mem _ hx), rb.at hw⟩) (k := ?_))
        rw [t3] at hGy1
        exact D.then_ fun a1 w1 hs => ⟨⟨i, q, y1⟩, ⟨by simp only; omega, hql, hqo, by simp only; rw [hqv, t2], hGy1⟩, by simp only; omega, hs.lessE rfl (lk_cons rfl (lk_cons rfl (lk_cons rfl (lk_cons (by rw [← t3]; rfl) (lk_cons rfl (fun _ _ h => lk_nil h))))))⟩
    | true =>
      rw [ht] at hB s1 s2
      refine L.callP [] hA1 (hpre := fun w hw => ⟨hG.rdm (T := 34) hw (fun x hx => List.mem_cons_of_mem _ hx), hG.rdm (T := 34) hw (fun x hx => List.mem_cons_of_mem _ hx)⟩) (k := ?_)
      rintro u B ⟨y1, hGy1, rfl, rfl⟩
      rw [hdrop_nil]
      simp only [shut]
      refine L.drop (osC 34 y []) (M' := (bq, ob (u64s q) 34) :: osC 34 y1 []) (swap_perm _ _ _) ?_
      repeat (first | refine C.seq ?_ | refine C.region ?_ | refine L.nil ?_ | refine D.seq ?_ | refine L.move (k := ?_) | refine L.assign (k := ?_) | refine C.yes (h1 := ?_) | refine D.seqR (h := ?_) | refine L.buildS (c := fun _ => ?_) | refine L.callQ hB (hpre := fun w hw => ra.at hw) (k := ?_))
      rename_i n1
      have hA2 := add2_S (can (2 * R)) [1] (2 * R + 1) ⟨can_ok _, h2l⟩ ⟨ok1 (by omega), by simp⟩ (by rw [lv_can]; rfl) (osV (can (2 * R)).length y1) (.slice (some ⟨n1, 0, none⟩) 1 1)
      refine L.callP [] hA2 (hpre := fun w hw => ⟨hGy1.rdm (T := 34) hw (fun x hx => List.mem_cons_of_mem _ (List.mem_cons_of_mem _ hx)), Rd.own (hw.holds _ List.mem_cons_self) (by simp) (Nat.le_refl _) 1 rfl⟩) (k := ?_)
      rintro u B ⟨y2, hGy2, rfl, rfl⟩
      rw [hdrop_nil]
      simp only [shut]
      refine L.drop ((n1, ob [.int .u64 1] 34) :: osC 34 y1 []) (M' := (bq, ob (u64s q) 34) :: osC 34 y2 []) (drop2_perm _ _ _ _) ?_
      repeat (first | refine C.seq ?_ | refine C.region ?_ | refine L.nil ?_ | refine L.move (k := ?_) | refine L.assign (k := ?_) | refine D.seqR (h := ?_))
      have hxl := h3l
      have hC := cmp2_S (can (2 * R + 1)) b (cmpN (2 * R + 1) Bn) ⟨can_ok _, hxl⟩ nb (by rw [lv_can, hBn]) (osV (can (2 * R + 1)).length y2) vb
      by_cases hge : Bn ≤ 2 * R + 1
      · have e1 : cm .geq (cmpN (2 * R + 1) Bn) 0 = true := cm_ge (by unfold cmpN; rw [if_neg (by omega)]; split <;> omega)
        obtain ⟨t1, t2⟩ := s1 (by simpa using hge)
        have hSb := sub2_S (can (2 * R + 1)) b ((A / 2 ^ i) % Bn) 0 ⟨can_ok _, hxl⟩ nb (by rw [lv_can, ← hBn, ← t1]; rfl) (by rw [lv_can, ← hBn, if_neg (by omega)]) (osV (can (2 * R + 1)).length y2) vb
        repeat (first | refine C.seq ?_ | refine C.region ?_ | refine L.nil ?_ | refine D.seq ?_ | refine L.move (k := ?_) | refine L.cm (c := ?_) | refine C.yes (h1 := ?_) | refine L.callQ hC (hpre := fun w hw => ⟨hGy2.rdm (T := 34) hw (fun x hx => List.mem_cons_of_mem _ hx), rb.at hw⟩) (k := ?_))
        refine L.callP [] hSb (hpre := fun w hw => ⟨hGy2.rdm (T := 34) hw (fun x hx => List.mem_cons_of_mem _ hx), rb.at hw⟩) (k := ?_)
        rintro u B ⟨y9, hG9, rfl, rfl⟩
        rw [hdrop_nil]
        simp only [shut]
        refine L.drop (osC 34 y2 []) (M' := (bq, ob (u64s q) 34) :: osC 34 y9 []) (swap_perm _ _ _) ?_
        repeat (first | refine L.convI (hz := d8) (c := ?_) | refine L.ar (op := .shl) (ho := hk2) (hz := f1) (c := ?_) | refine C.region ?_ | refine L.nil ?_ | refine L.move (k := ?_) | refine L.assign (k := ?_) | refine L.ar (c := ?_) | refine L.extract (c := ?_) | refine D.blkNormal ?_ | refine D.seqR (h := ?_) | refine L.indexR sq hidx (c := ?_) | refine L.loadK 0 kq hoo (c := ?_) | refine L.storeK 0 hqc hoo (c := ?_))
        refine D.then_ fun a1 w1 hs => ⟨⟨i, q.set (i / 64) (lmb q (i / 64) ||| 2 ^ (i % 64)), y9⟩, ⟨by simp only; omega, by simp only [List.length_set]; exact hql, u1, by simp only; rw [u2, hqv, t2], hG9⟩, by simp only; omega, ?_⟩
        simp only [← u64s_set]
        exact hs.lessE rfl (lk_cons rfl (lk_cons rfl (lk_cons rfl (lk_cons rfl (lk_cons rfl (fun _ _ h => lk_nil h))))))
      · have e1 : cm .geq (cmpN (2 * R + 1) Bn) 0 = false := cm_ge' (by unfold cmpN; rw [if_pos (by omega)]; omega)
        obtain ⟨t1, t2⟩ := s2 (by simpa using hge)
        have t3 : 2 * R + 1 = (A / 2 ^ i) % Bn := by simpa using t1
        repeat (first | refine C.region ?_ | refine L.nil ?_ | refine D.seq ?_ | refine L.move (k := ?_) | refine L.assign (k := ?_) | refine L.cm (c := ?_) | refine L.ar (c := ?_) | refine C.no (h1 := ?_) | refine D.blkNormal ?_ | refine C.skip ?_ | refine D.seqR (h := ?_) | refine L.callQ hC (hpre := fun w hw => ⟨hGy2.rdm (T := 34) hw (fun x hx => List.mem_cons_of_mem _ hx), rb.at hw⟩) (k := ?_))
        rw [t3] at hGy2
        exact D.then_ fun a1 w1 hs => ⟨⟨i, q, y2⟩, ⟨by simp only; omega, hql, hqo, by simp only; rw [hqv, t2], hGy2⟩, by simp only; omega, hs.lessE rfl (lk_cons rfl (lk_cons rfl (lk_cons rfl (lk_cons (by rw [← t3]; rfl) (lk_cons rfl (fun _ _ h => lk_nil h))))))⟩
end Go.Proofs.YtpemoeincepilaaDoor.Nt
