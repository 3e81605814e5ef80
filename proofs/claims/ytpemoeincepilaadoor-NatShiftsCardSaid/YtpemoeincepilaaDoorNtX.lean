/- nat: (row).shift, Div: what they answer, told by numbers. -/
import Derived.Test.YtpemoeincepilaaDoorNtV
set_option linter.unusedVariables false
set_option linter.unusedSimpArgs false
namespace Go.Proofs.YtpemoeincepilaaDoor.Nt
open Go Go.RowKit SL
attribute [local irreducible] SL.L SL.C SL.D SL.N SL.H SL.QL SL.QW SL.QP

theorem shl_or {x c : Nat} (hx : x < 18446744073709551616) (hc : c ≤ 1) : (x * 2 ^ 1 % 18446744073709551616 ||| c) < 18446744073709551616 ∧ (x * 2 ^ 1 % 18446744073709551616 ||| c) + 18446744073709551616 * (x / 2 ^ 63) = 2 * x + c ∧ x / 2 ^ 63 ≤ 1 := by
  have e : x * 2 ^ 1 % 18446744073709551616 = 2 ^ 1 * (x * 2 % 18446744073709551616 / 2) := by omega
  have h := Nat.two_pow_add_eq_or_of_lt (i := 1) (b := c) (by omega) (x * 2 % 18446744073709551616 / 2)
  rw [e, ← h]
  omega
set_option maxRecDepth 100000 in
set_option maxHeartbeats 4000000 in
/-- shift: twice a number, and a bit, in its own memory. -/
theorem shift_S (a : List Nat) (oa : okL a) (hla : a.length ≤ 300000) (c : Nat) (hc : c ≤ 1) (y : OS) (hG : osG 1 a.length (u64s a) y) : Ctr Tryd.prog 56 [osV a.length y, .int .u64 (c : Int)] (osC 34 y []) tt
    (fun v B => ∃ o y', osG 1 o.length (u64s o) y' ∧ v = shut [osV o.length y'] ∧ B = osC 34 y' [] ∧ okL o ∧ lv o = 2 * lv a + c ∧ o.length ≤ a.length + 1) := by
  have c63 : ar .shr .u64 (0 : Int) 63 = 0 := by decide
  rcases y with _ | ⟨b, l, cap⟩
  · obtain ⟨h0, h1⟩ := hG
    have ha : a = [] := List.eq_nil_of_length_eq_zero h0
    subst ha
    refine Ctr.enter Tryd.func56 Tryd.ntmps56 rfl rfl (fun w _ => ?_)
    simp only [osC, osV]
    have sn : SlV (.slice none 0 0) 0 := SlV.nil
    rcases Nat.eq_zero_or_pos c with rfl | hp
    · have d1 : cm .neq ((0 : Nat) : Int) 0 = false := rfl
      repeat (first | refine C.seq ?_ | refine C.region ?_ | refine L.nil ?_ | refine D.seq ?_ | refine L.move (k := ?_) | refine L.assign (k := ?_) | refine L.lenV (c := ?_) | refine C.block ?_ | refine L.lenR sn (c := ?_))
      refine C.loop (α := Unit) (fun _ => True) (fun _ => [(0, .slice none 0 0), (1, .int .u64 ((0 : Nat) : Int)), (8, .int .i64 ((0 : Nat) : Int)), (9, .int .i64 0)]) (fun _ => []) (fun _ => 0) () (fun a w hs => hs.lessE rfl (lk_cons rfl (lk_cons rfl (lk_cons rfl (lk_cons rfl (fun _ _ h => lk_nil h)))))) trivial ?_
      rintro ⟨⟩ _
      have d2 : cm .lss 0 ((0 : Nat) : Int) = false := rfl
      repeat (first | refine C.seq ?_ | refine C.region ?_ | refine L.nil ?_ | refine D.seq ?_ | refine L.move (k := ?_) | refine L.assign (k := ?_) | refine L.cm (c := ?_) | refine C.no (h1 := ?_) | refine C.ret ?_ | refine C.exit ?_ | refine D.thenExit ?_ | refine D.blkExit ?_ | refine C.skip ?_)
      exact D.ret (vs := [osV 0 none]) (RV.tmp rfl RV.nil) (fun w' hw => Post.mk (is := []) hw List.nodup_nil rfl ⟨[], none, osG.nil, rfl, rfl, (fun _ h => by cases h), rfl, by simp⟩)
    · obtain rfl : c = 1 := by omega
      have d1 : cm .neq ((1 : Nat) : Int) 0 = true := rfl
      repeat (first | refine C.seq ?_ | refine C.region ?_ | refine L.nil ?_ | refine D.seq ?_ | refine L.move (k := ?_) | refine L.assign (k := ?_) | refine L.lenV (c := ?_) | refine C.block ?_ | refine L.lenR sn (c := ?_))
      refine C.loop (α := Unit) (fun _ => True) (fun _ => [(0, .slice none 0 0), (1, .int .u64 ((1 : Nat) : Int)), (8, .int .i64 ((0 : Nat) : Int)), (9, .int .i64 0)]) (fun _ => []) (fun _ => 0) () (fun a w hs => hs.lessE rfl (lk_cons rfl (lk_cons rfl (lk_cons rfl (lk_cons rfl (fun _ _ h => lk_nil h)))))) trivial ?_
      rintro ⟨⟩ _
      have d2 : cm .lss 0 ((0 : Nat) : Int) = false := rfl
      repeat (first | refine C.seq ?_ | refine C.region ?_ | refine L.nil ?_ | refine D.seq ?_ | refine L.move (k := ?_) | refine L.cm (c := ?_) | refine C.yes (h1 := ?_) | refine C.no (h1 := ?_) | refine C.exit ?_ | refine D.thenExit ?_ | refine D.blkExit ?_ | refine L.buildS (c := fun _ => ?_))
      rename_i nb
      refine L.appendU [_] (L2 := []) (y := none) (m := 0) (u := .slice (some ⟨nb, 0, none⟩) 1 1) (k := 1) (news := [.int .u64 ((1 : Nat) : Int)]) osG.nil rfl (fun w hw => Rd.own (hw.holds _ List.mem_cons_self) (by simp) (Nat.le_refl _) 1 rfl) rfl (u64s_ones [1]) (by unfold maxLen; omega) (by omega) (c := fun y' hG' _ => ?_)
      simp only [List.cons_append, List.nil_append]
      repeat (first | refine C.seq ?_ | refine C.region ?_ | refine L.nil ?_ | refine D.seq ?_ | refine L.move (k := ?_) | refine L.assign (k := ?_) | refine C.ret ?_ | refine D.seqR (h := ?_))
      exact D.ret (vs := [osV (0 + 1) y']) (RV.tmp rfl RV.nil) (fun w' hw => Post.mkD 1 hw rfl ⟨[1], y', hG', rfl, rfl, ok1 (by omega), rfl, by simp⟩)
  · obtain ⟨g1, g2, g3, g4⟩ := hG
    rw [Nat.mul_one] at g1 g4
    refine Ctr.enter Tryd.func56 Tryd.ntmps56 rfl rfl (fun w _ => ?_)
    simp only [osC, osV]
    have sn : SlV (.slice (some ⟨b, 0, none⟩) a.length cap) a.length := SlV.mk _ _ g2
    repeat (first | refine C.seq ?_ | refine C.region ?_ | refine L.nil ?_ | refine D.seq ?_ | refine L.move (k := ?_) | refine L.assign (k := ?_) | refine L.lenV (c := ?_) | refine C.block ?_ | refine L.lenR sn (c := ?_))
    refine C.loop (α := Nat × List Nat × Nat × List Value) (fun g => g.1 ≤ a.length ∧ g.2.1.length = g.1 ∧ okL g.2.1 ∧ g.2.2.1 ≤ 1 ∧ lv g.2.1 + 18446744073709551616 ^ g.1 * g.2.2.1 = 2 * lo a g.1 + c ∧ g.2.2.2.length = l.length ∧ g.2.2.2.take a.length = u64s (g.2.1 ++ a.drop g.1)) (fun g => [(0, .slice (some ⟨b, 0, none⟩) a.length cap), (1, .int .u64 (g.2.2.1 : Int)), (7, .slice (some ⟨b, 0, none⟩) a.length cap), (8, .int .i64 a.length), (9, .int .i64 (g.1 : Int))]) (fun g => [(b, ob g.2.2.2 34)]) (fun g => a.length - g.1) (0, [], c, l)
      (fun a w hs => hs.lessE rfl (lk_cons rfl (lk_cons rfl (lk_cons rfl (lk_cons rfl (lk_cons rfl (fun _ _ h => lk_nil h))))))) ⟨Nat.zero_le _, rfl, (fun _ h => by cases h), hc, by simp [lv, lo_zero], rfl, by simpa using g4⟩ ?_
    rintro ⟨i, o, cc, l1⟩ ⟨hi, hol, hok, hcc, hv, hl1, ht⟩
    simp only at hi hol hok hcc hv hl1 ht
    dsimp only
    rcases Nat.lt_or_ge i a.length with hlt | hge
    · have d1 : cm .lss (i : Int) a.length = true := cm_lo (by omega)
      have d2 : ar .add .i64 (i : Int) 1 = ((i + 1 : Nat) : Int) := i64_add (b := 1) (by omega)
      have hx := lmb_lt oa i
      obtain ⟨q1, q2, q3⟩ := shl_or hx hcc
      have d3 : ar .shl .u64 (lmb a i : Int) 1 = ((lmb a i * 2 ^ 1 % 18446744073709551616 : Nat) : Int) := ar_shlN _ 1 (by omega)
      have d4 : ar .or .u64 ((lmb a i * 2 ^ 1 % 18446744073709551616 : Nat) : Int) (cc : Int) = ((lmb a i * 2 ^ 1 % 18446744073709551616 ||| cc : Nat) : Int) := ar_orN _ _ (Nat.mod_lt _ (by omega)) (by omega)
      have d5 : ar .shr .u64 (lmb a i : Int) 63 = ((lmb a i / 2 ^ 63 : Nat) : Int) := ar_shrN _ 63 (by omega)
      have hk1 : i < l1.length := by omega
      have kx : l1[i]? = some (.int .u64 (lmb a i : Int)) := by
        have e1 : (l1.take a.length)[i]? = l1[i]? := by rw [List.getElem?_take, if_pos hlt]
        rw [← e1, ht]
        exact u64s_get (get_mid hol (get_lmb hlt))
      have hoo : sO (.slice (some ⟨b, 0, none⟩) a.length cap) + i * 1 = i := by simp [sO]
      repeat (first | refine C.seq ?_ | refine C.region ?_ | refine L.nil ?_ | refine D.seq ?_ | refine L.move (k := ?_) | refine L.assign (k := ?_) | refine L.cm (c := ?_) | refine L.ar (c := ?_) | refine C.yes (h1 := ?_) | refine C.block ?_ | refine D.blkNormal ?_ | refine C.skip ?_ | refine L.indexR sn hlt (c := ?_) | refine L.loadK 0 kx hoo (c := ?_) | refine L.storeK 0 hk1 hoo (c := ?_))
      refine D.then_ fun a1 w1 hs => ⟨(i + 1, o ++ [lmb a i * 2 ^ 1 % 18446744073709551616 ||| cc], lmb a i / 2 ^ 63, l1.set i (.int .u64 ((lmb a i * 2 ^ 1 % 18446744073709551616 ||| cc : Nat) : Int))), ⟨hlt, by simp only [List.length_append, List.length_singleton, hol], okL_app hok (ok1 q1), q3, shift_step hol hv q2, by simp only [List.length_set]; exact hl1, ?_⟩, by simp only; omega, hs.lessE rfl (lk_cons rfl (lk_cons rfl (lk_cons rfl (lk_cons rfl (lk_cons rfl (fun _ _ h => lk_nil h))))))⟩
      simp only
      rw [List.take_set, ht, u64s_set, set_mid hol hlt]
    · have d1 : cm .lss (i : Int) a.length = false := cm_lo' (by omega)
      obtain rfl : i = a.length := by omega
      rw [List.drop_length, List.append_nil] at ht
      rw [show lo a a.length = lv a from lo_all (Nat.le_refl _)] at hv
      have hG1 : osG 1 o.length (u64s o) (some (b, l1, cap)) := ⟨by omega, by omega, g3, by rw [hol, Nat.mul_one]; exact ht⟩
      rcases Nat.eq_zero_or_pos cc with rfl | hp
      · have d2 : cm .neq ((0 : Nat) : Int) 0 = false := rfl
        repeat (first | refine C.seq ?_ | refine C.region ?_ | refine L.nil ?_ | refine D.seq ?_ | refine L.move (k := ?_) | refine L.assign (k := ?_) | refine L.cm (c := ?_) | refine C.no (h1 := ?_) | refine C.ret ?_ | refine C.exit ?_ | refine D.thenExit ?_ | refine D.blkExit ?_ | refine C.skip ?_ | refine D.seqR (h := ?_))
        exact D.ret (vs := [.slice (some ⟨b, 0, none⟩) a.length cap]) (RV.tmp rfl RV.nil) (fun w' hw => Post.mk (is := [0]) hw (by decide) rfl ⟨o, some (b, l1, cap), hG1, by rw [hol], rfl, hok, by omega, by omega⟩)
      · obtain rfl : cc = 1 := by omega
        have d2 : cm .neq ((1 : Nat) : Int) 0 = true := rfl
        repeat (first | refine C.seq ?_ | refine C.region ?_ | refine L.nil ?_ | refine D.seq ?_ | refine L.move (k := ?_) | refine L.cm (c := ?_) | refine C.yes (h1 := ?_) | refine C.no (h1 := ?_) | refine C.exit ?_ | refine D.thenExit ?_ | refine D.blkExit ?_ | refine D.seqR (h := ?_) | refine L.buildS (c := fun _ => ?_))
        rename_i nb
        rw [← hol]
        refine L.appendU [_] (L2 := []) (y := some (b, l1, cap)) (m := o.length) (u := .slice (some ⟨nb, 0, none⟩) 1 1) (k := 1) (news := [.int .u64 ((1 : Nat) : Int)]) hG1 rfl (fun w hw => Rd.own (hw.holds _ List.mem_cons_self) (by simp) (Nat.le_refl _) 1 rfl) rfl (u64s_ones [1]) (by unfold maxLen; omega) (by omega) (c := fun y' hG' _ => ?_)
        simp only [List.cons_append, List.nil_append]
        repeat (first | refine C.seq ?_ | refine C.region ?_ | refine L.nil ?_ | refine D.seq ?_ | refine L.move (k := ?_) | refine L.assign (k := ?_) | refine C.ret ?_ | refine D.seqR (h := ?_))
        have hG2 : osG 1 (o ++ [1]).length (u64s (o ++ [1])) y' := by rw [u64s_app, List.length_append]; exact hG'
        exact D.ret (vs := [osV (o.length + 1) y']) (RV.tmp rfl RV.nil) (fun w' hw => Post.mkD 1 hw rfl ⟨o ++ [1], y', hG2, by rw [List.length_append]; rfl, rfl, okL_app hok (ok1 (by omega)), by rw [lv_snoc, hol]; exact hv, by rw [List.length_append, hol]; exact Nat.le_refl _⟩)
end Go.Proofs.YtpemoeincepilaaDoor.Nt
