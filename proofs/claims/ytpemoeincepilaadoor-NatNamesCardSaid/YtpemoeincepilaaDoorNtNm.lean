/- keysmithlaw02.big, keysmithkit.Times; the law NatNames: its walk. No condition. -/
import Derived.Test.YtpemoeincepilaaDoorNtHl
set_option linter.unusedVariables false
set_option linter.unusedSimpArgs false
namespace Go.Proofs.YtpemoeincepilaaDoor.Nt
open Go Go.RowKit SL
attribute [local irreducible] SL.L SL.C SL.D SL.N SL.H SL.QL SL.QW SL.QP

/-- A text so many times. -/
def repB (s : List UInt8) : Nat → List UInt8
  | 0 => []
  | n + 1 => s ++ repB s n
theorem repB_add (s : List UInt8) (a b : Nat) : repB s (a + b) = repB s a ++ repB s b := by
  induction a with
  | zero => rw [Nat.zero_add]; rfl
  | succ a ih => rw [Nat.succ_add]; show s ++ repB s (a + b) = (s ++ repB s a) ++ repB s b; rw [ih, List.append_assoc]
theorem repB_one (c : UInt8) (n : Nat) : repB [c] n = List.replicate n c := by
  induction n with
  | zero => rfl
  | succ n ih => show [c] ++ repB [c] n = _; rw [ih]; rfl
theorem repB_dbl (s : List UInt8) (n : Nat) : repB (s ++ s) n = repB s (2 * n) := by
  induction n with
  | zero => rfl
  | succ n ih =>
    show (s ++ s) ++ repB (s ++ s) n = _
    rw [ih, show 2 * (n + 1) = (2 * n + 1) + 1 by omega]
    show _ = s ++ (s ++ repB s (2 * n))
    rw [List.append_assoc]
theorem repB_len (s : List UInt8) (n : Nat) : (repB s n).length = s.length * n := by
  induction n with
  | zero => rfl
  | succ n ih => show (s ++ repB s n).length = _; rw [List.length_append, ih, Nat.mul_succ]; omega
theorem times_S (s : ByteArray) (n : Nat) (hn : n ≤ 1000000) (hs : s.size * n ≤ 100000000) : Ctr Tryd.prog 30 [.string s, .int .i64 (n : Int)] [] tt (is (.string ⟨(repB s.data.toList n).toArray⟩) []) := by
  refine Ctr.enter Tryd.func30 Tryd.ntmps30 rfl rfl (fun w _ => ?_)
  repeat (first | refine C.seq ?_ | refine C.region ?_ | refine L.nil ?_ | refine D.seq ?_ | refine L.assign (k := ?_) | refine C.block ?_)
  refine C.loop (α := ByteArray × Nat × ByteArray) (fun g => g.2.1 ≤ n ∧ g.1.data.toList ++ repB g.2.2.data.toList g.2.1 = repB s.data.toList n) (fun g => [(0, .string g.2.2), (1, .int .i64 (g.2.1 : Int)), (5, .string g.1)]) (fun _ => []) (fun g => g.2.1) (⟨#[]⟩, n, s) (fun a w hs => hs.lessE rfl (lk_cons rfl (lk_cons rfl (lk_cons rfl (fun _ _ h => lk_nil h))))) ⟨Nat.le_refl _, by simp⟩ ?_
  rintro ⟨o, m, t⟩ ⟨hm, he⟩
  simp only at hm he
  dsimp only
  rcases Nat.eq_zero_or_pos m with rfl | hp
  · have c1 : cm .gtr ((0 : Nat) : Int) 0 = false := rfl
    have e : o = ⟨(repB s.data.toList n).toArray⟩ := by
      obtain ⟨d⟩ := o
      rw [← he]; simp [repB]
    rw [← e]
    repeat (first | refine C.seq ?_ | refine C.region ?_ | refine L.nil ?_ | refine D.seq ?_ | refine L.move (k := ?_) | refine L.assign (k := ?_) | refine L.cm (c := ?_) | refine C.no (h1 := ?_) | refine C.ret ?_ | refine C.exit ?_ | refine D.thenExit ?_ | refine D.blkExit ?_ | refine D.seqR (h := ?_))
    (refine D.ret (vs := [_]) (RV.tmp rfl RV.nil) ?_; intro w' hw; exact Post.mk (is := []) hw List.nodup_nil rfl ⟨rfl, rfl⟩)
  · have c1 : cm .gtr (m : Int) 0 = true := cm_gt (by omega)
    have hle := congrArg List.length he
    rw [List.length_append, repB_len, repB_len] at hle
    have hle2 : o.size + t.size * m = s.size * n := hle
    have hle3 : t.size ≤ t.size * m := Nat.le_mul_of_pos_right _ hp
    have q1 : o.size + t.size ≤ 1000000000 := by omega
    have q2 : t.size + t.size ≤ 1000000000 := by omega
    have c2 : ar .rem .i64 (m : Int) 2 = ((m % 2 : Nat) : Int) := i64_rem (b := 2)
    have c3 : ar .quo .i64 (m : Int) 2 = ((m / 2 : Nat) : Int) := i64_quo (b := 2) (by omega)
    by_cases h2 : m % 2 = 1
    · have c4 : cm .eql ((m % 2 : Nat) : Int) 1 = true := cm_yes (by omega)
      repeat (first | refine C.seq ?_ | refine C.region ?_ | refine L.nil ?_ | refine D.seq ?_ | refine L.move (k := ?_) | refine L.assign (k := ?_) | refine L.cm (c := ?_) | refine L.ar (c := ?_) | refine C.yes (h1 := ?_) | refine C.block ?_ | refine D.blkNormal ?_ | refine C.skip ?_ | refine L.strAdd q1 (c := ?_) | refine L.strAdd q2 (c := ?_))
      refine D.then_ fun a1 w1 hs => ⟨(o ++ t, m / 2, t ++ t), ⟨by simp only; omega, ?_⟩, by simp only; omega, hs.lessE rfl (lk_cons rfl (lk_cons rfl (lk_cons rfl (fun _ _ h => lk_nil h))))⟩
      simp only [ByteArray.data_append, Array.toList_append]
      rw [repB_dbl, List.append_assoc, ← he]
      congr 1
      conv => rhs; rw [show m = 1 + 2 * (m / 2) by omega]
      rw [repB_add]; simp [repB]
    · have c4 : cm .eql ((m % 2 : Nat) : Int) 1 = false := cm_no (by omega)
      repeat (first | refine C.seq ?_ | refine C.region ?_ | refine L.nil ?_ | refine D.seq ?_ | refine L.move (k := ?_) | refine L.assign (k := ?_) | refine L.cm (c := ?_) | refine L.ar (c := ?_) | refine C.yes (h1 := ?_) | refine C.no (h1 := ?_) | refine C.block ?_ | refine D.blkNormal ?_ | refine C.skip ?_ | refine L.strAdd q2 (c := ?_))
      refine D.then_ fun a1 w1 hs => ⟨(o, m / 2, t ++ t), ⟨by simp only; omega, ?_⟩, by simp only; omega, hs.lessE rfl (lk_cons rfl (lk_cons rfl (lk_cons rfl (fun _ _ h => lk_nil h))))⟩
      simp only [ByteArray.data_append, Array.toList_append]
      rw [repB_dbl, ← he, show 2 * (m / 2) = m by omega]
section
variable {P : Program} {ops : Array Oper} {Q : Exit → Act → World → Prop} {n : Nat} {ro : Option Nat} {dl : List Deferred} {E : Env} {rest : List Oper} {d t : Nat} {pos : String} {af : Array Edge}
theorem keep2 {w w1 : World} {ps : List (Value × List Nat)} {b1 b2 cap1 cap2 : Nat} {cells1 cells2 : List Value} {l1 l2 : List Nat} (hK : Kp w w1 ps) (hc1 : l1.length ≤ cap1) (hl1 : cells1.take l1.length = u64s l1) (hc2 : l2.length ≤ cap2) (hl2 : cells2.take l2.length = u64s l2)
    (k : ∀ w2, Kp w w2 ((.slice (some ⟨b2, 0, none⟩) l2.length cap2, l2) :: (.slice (some ⟨b1, 0, none⟩) l1.length cap1, l1) :: ps) → L P ops Q rest { w0 := w2, A := [], n := n, ro := ro, dl := dl } E []) :
    L P ops Q rest { w0 := w1, A := [], n := n, ro := ro, dl := dl } E [(b2, ob cells2 34), (b1, ob cells1 34)] := by
  refine L.base [(b2, ob cells2 34), (b1, ob cells1 34)] (M' := []) rfl (fun w2 h2 => ?_)
  have h2' : At w1 [] [(b2, ob cells2 34), (b1, ob cells1 34)] w2 := h2
  have k1 := hK.next h2' (Rd.own (h2'.holds (b1, ob cells1 34) (by simp)) (by simp) hc1 l1.length hl1)
  exact k w2 ⟨k1.bk, fun p hp => by
    rcases List.mem_cons.1 hp with rfl | hp
    · exact Rd.own (h2'.holds (b2, ob cells2 34) (by simp)) (by simp) hc2 l2.length hl2
    · exact k1.fs p hp⟩
end
theorem big_S (s : ByteArray) (n : Nat) (e : Int) (h : Ctr Tryd.prog 12 [.string s] [] tt (natE n e)) : Ctr Tryd.prog 29 [.string s] [] tt (natR n) := by
  refine Ctr.enter Tryd.func29 Tryd.ntmps29 rfl rfl (fun w _ => ?_)
  repeat (first | refine C.seq ?_ | refine C.region ?_ | refine L.nil ?_ | refine D.seq ?_ | refine L.move (k := ?_) | refine L.assign (k := ?_))
  refine L.callP [] h (hpre := fun _ _ => trivial) (k := ?_)
  rintro u B ⟨y, hG, rfl, rfl⟩
  rw [hdrop_nil]
  repeat (first | refine C.seq ?_ | refine C.region ?_ | refine L.nil ?_ | refine D.seq ?_ | refine L.move (k := ?_) | refine L.assign (k := ?_) | refine L.extract (c := ?_) | refine C.ret ?_)
  refine D.ret (vs := [osV (can n).length y]) (RV.tmp rfl RV.nil) ?_
  intro w' hw
  exact Post.mkD 0 hw (by simp) ⟨y, hG, rfl, rfl⟩
theorem fitS (l : List Nat) (k : Int) (f : List Nat) (e : Int) (hl : nt l) (hk : I64' k) (h : fitL (lv l) k = (f, e)) (v : Value) : Ctr Tryd.prog 21 [v, .int .i64 k] [] (fun w => RdN w [] v l) (rowE f e) := by
  have := fit_S l hl v k hk
  rw [h] at this; exact this
theorem textS (l : List Nat) (t : List UInt8) (hl : nt l) (h : text8 (lv l) = t) (v : Value) : Ctr Tryd.prog 11 [v] [] (fun w => RdN w [] v l) (is (.string ⟨t.toArray⟩) []) := by
  subst h; exact text_S l hl.1 (by have := hl.2; omega) v
theorem lower_rep (c : UInt8) (n : Nat) (h : Lib.lowerB c = c) : Lib.toLowerA (List.replicate n c) = List.replicate n c := by unfold Lib.toLowerA; rw [List.map_replicate, h]
set_option maxRecDepth 100000 in
set_option maxHeartbeats 40000000 in
theorem names_S : Ctr Tryd.prog 8 [] [] tt (is (.bool true) []) := by
  have hR1 := readX_S ⟨#[49, 50, 51, 52, 53, 54, 55, 56, 57, 97, 98, 99, 100, 101, 102, 48, 49, 50, 51, 52, 53, 54, 55, 56, 57, 97, 98, 99, 100, 101, 102]⟩ 1512366075204170929049582354406559215 0 (by decide) (by decide) (by decide +kernel)
  have hR2 := readX_S ⟨#[102, 101, 100, 99, 98, 97, 57, 56, 55]⟩ 68414056839 0 (by decide) (by decide) (by decide +kernel)
  have hB1 := big_S _ _ _ hR1
  have hB2 := big_S _ _ _ hR2
  have hR3 := readX_S ⟨#[]⟩ 0 2 (by decide) (by decide) (by decide +kernel)
  have hR4 := readX_S ⟨#[49, 103]⟩ 0 7 (by decide) (by decide) (by decide +kernel)
  have hT1 := times_S ⟨#[48]⟩ 8192 (by omega) (by decide)
  have hT2 := times_S ⟨#[48]⟩ 9000 (by omega) (by decide)
  have e1 : ((⟨#[49]⟩ : ByteArray) ++ ⟨(repB (⟨#[48]⟩ : ByteArray).data.toList 8192).toArray⟩).data.toList = 49 :: List.replicate 8192 48 := by
    simp only [ByteArray.data_append, Array.toList_append]
    rw [repB_one]; rfl
  have e2 : ((⟨(repB (⟨#[48]⟩ : ByteArray).data.toList 9000).toArray⟩ : ByteArray) ++ ⟨#[97]⟩).data.toList = List.replicate 9000 48 ++ [97] := by
    simp only [ByteArray.data_append, Array.toList_append]
    rw [repB_one]
  have z1 : ((⟨#[49]⟩ : ByteArray) ++ ⟨(repB (⟨#[48]⟩ : ByteArray).data.toList 8192).toArray⟩).size = 8193 := by
    have := congrArg List.length e1
    rw [List.length_cons, List.length_replicate] at this; exact this
  have z2 : ((⟨(repB (⟨#[48]⟩ : ByteArray).data.toList 9000).toArray⟩ : ByteArray) ++ ⟨#[97]⟩).size = 9001 := by
    have := congrArg List.length e2
    rw [List.length_append, List.length_replicate] at this; exact this
  have l48 : Lib.lowerB 48 = 48 := by decide
  have hx48 : hx (48 : UInt8).toNat = 0 := by decide
  have hR5 := readX_S ((⟨#[49]⟩ : ByteArray) ++ ⟨(repB (⟨#[48]⟩ : ByteArray).data.toList 8192).toArray⟩) 0 3 (fun b hb => by
      rw [e1] at hb
      rcases List.mem_cons.1 hb with rfl | hb
      · decide
      · rw [List.eq_of_mem_replicate hb]; decide) (by omega) (by
    have ht : Lib.toLowerA (49 :: List.replicate 8192 48) = 49 :: List.replicate 8192 48 := by
      show Lib.lowerB 49 :: Lib.toLowerA (List.replicate 8192 48) = _
      rw [lower_rep _ _ l48]; rfl
    rw [e1, ht, z1]
    unfold readE
    have hall : ∀ c ∈ (49 :: List.replicate 8192 48 : List UInt8), hx c.toNat < 16 := fun c hc => by
      rcases List.mem_cons.1 hc with rfl | hc
      · decide
      · rw [List.eq_of_mem_replicate hc]; decide
    have hm : (49 :: List.replicate 8192 48 : List UInt8).map (fun c => hx c.toNat) = 1 :: List.replicate 8192 0 := by
      rw [List.map_cons, List.map_replicate, hx48]; rfl
    have hnd : ndig (rdN (1 :: List.replicate 8192 0)) = 8193 := by
      rw [ndig_rdN (fun x hx => by
        rcases List.mem_cons.1 hx with rfl | hx
        · omega
        · rw [List.eq_of_mem_replicate hx]; omega) (by omega), List.length_replicate]
    rw [if_neg (by omega), if_pos hall, hm, hnd, if_pos (by omega)])
  have hR6 := readX_S ((⟨(repB (⟨#[48]⟩ : ByteArray).data.toList 9000).toArray⟩ : ByteArray) ++ ⟨#[97]⟩) 10 0 (fun b hb => by
      rw [e2] at hb
      rcases List.mem_append.1 hb with hb | hb
      · rw [List.eq_of_mem_replicate hb]; decide
      · rw [List.mem_singleton.1 hb]; decide) (by omega) (by
    have ht : Lib.toLowerA (List.replicate 9000 48 ++ [97]) = List.replicate 9000 48 ++ [97] := by
      have h := lower_rep 48 9000 l48
      unfold Lib.toLowerA at h ⊢
      rw [List.map_append, h]; rfl
    rw [e2, ht, z2]
    unfold readE
    have hall : ∀ c ∈ (List.replicate 9000 48 ++ [97] : List UInt8), hx c.toNat < 16 := fun c hc => by
      rcases List.mem_append.1 hc with hc | hc
      · rw [List.eq_of_mem_replicate hc]; decide
      · rw [List.mem_singleton.1 hc]; decide
    have hm : rdN ((List.replicate 9000 48 ++ [97] : List UInt8).map (fun c => hx c.toNat)) = 10 := by
      rw [List.map_append, List.map_replicate, hx48, rdN_app, rdN_zeros (fun x hx => List.eq_of_mem_replicate hx)]; rfl
    have hnd : ndig 10 = 1 := by decide +kernel
    rw [if_neg (by omega), if_pos hall, hm, hnd, if_neg (by omega)])
  have cn : ∀ l : List Nat, okL l → trm l → can (lv l) = l := fun l h1 h2 => can_lv h1 h2
  have c5 : can 5 = [5] := cn [5] (by unfold okL; decide) (by intro x hx; simp at hx; omega)
  have c7 : can 7 = [7] := cn [7] (by unfold okL; decide) (by intro x hx; simp at hx; omega)
  have c10 : can 10 = [10] := cn [10] (by unfold okL; decide) (by intro x hx; simp at hx; omega)
  have c64 : can 18446744073709551616 = [0, 1] := cn [0, 1] (by unfold okL; decide) (by intro x hx; simp at hx; omega)
  have c51 : can 18446744073709551621 = [5, 1] := cn [5, 1] (by unfold okL; decide) (by intro x hx; simp at hx; omega)
  have hc0 : (can 0).length = 0 := by rw [can_zero]; rfl
  have f1 : fitL (lv [5, 0, 0]) 2 = ([5, 0], 0) := by
    rw [show lv [5, 0, 0] = 5 from rfl]; unfold fitL; rw [c5]; decide
  have f2 : fitL (lv [5, 1]) 1 = ([], 3) := by
    rw [show lv [5, 1] = 18446744073709551621 from rfl]; unfold fitL; rw [c51]; decide
  have f3 : fitL (lv []) (-1) = ([], 2) := by unfold fitL; rw [if_pos (by omega)]
  have hD1 := fun v u => div_S [1] [0, 0] (by unfold okL; decide) (by unfold okL; decide) (by decide) (by decide) v u
  have z0 : lv [0, 0] = 0 := rfl
  simp only [z0, if_true] at hD1
  have n1 := nt_can (k := 2) (n := 1512366075204170929049582354406559215) (by unfold sm; decide) (by omega)
  have n2 := nt_can (k := 1) (n := 68414056839) (by unfold sm; decide) (by omega)
  have nq := nt_can (k := 2) (n := 22106072130223888666851440) (by unfold sm; decide) (by omega)
  have nr := nt_can (k := 1) (n := 3077561055) (by unfold sm; decide) (by omega)
  have nm := nt_can (k := 2) (n := 1512366075204170929049582351328998160) (by unfold sm; decide) (by omega)
  have hD2 := fun v u => div_S (can 1512366075204170929049582354406559215) (can 68414056839) n1.1 n2.1 (by have := sm_len (k := 2) (n := 1512366075204170929049582354406559215) (by unfold sm; decide); omega) (by have := sm_len (k := 1) (n := 68414056839) (by unfold sm; decide); omega) v u
  simp only [lv_can] at hD2
  have d1 : 1512366075204170929049582354406559215 / 68414056839 = 22106072130223888666851440 := by decide
  have d2 : 1512366075204170929049582354406559215 % 68414056839 = 3077561055 := by decide
  rw [d1, d2, if_neg (by decide)] at hD2
  have t1 : text8 (lv (can 1512366075204170929049582354406559215)) = [49, 50, 51, 52, 53, 54, 55, 56, 57, 97, 98, 99, 100, 101, 102, 48, 49, 50, 51, 52, 53, 54, 55, 56, 57, 97, 98, 99, 100, 101, 102] := by rw [lv_can]; decide +kernel
  have q1 : seq ⟨#[49, 50, 51, 52, 53, 54, 55, 56, 57, 97, 98, 99, 100, 101, 102, 48, 49, 50, 51, 52, 53, 54, 55, 56, 57, 97, 98, 99, 100, 101, 102]⟩ ⟨#[49, 50, 51, 52, 53, 54, 55, 56, 57, 97, 98, 99, 100, 101, 102, 48, 49, 50, 51, 52, 53, 54, 55, 56, 57, 97, 98, 99, 100, 101, 102]⟩ = true := by unfold seq; simp
  have q2 : seq ⟨#[48]⟩ ⟨#[48]⟩ = true := by unfold seq; simp
  have s1 : (⟨#[49]⟩ : ByteArray).size + (⟨(repB (⟨#[48]⟩ : ByteArray).data.toList 8192).toArray⟩ : ByteArray).size ≤ 1000000000 := by rw [ByteArray.size_append] at z1; omega
  have s2 : (⟨(repB (⟨#[48]⟩ : ByteArray).data.toList 9000).toArray⟩ : ByteArray).size + (⟨#[97]⟩ : ByteArray).size ≤ 1000000000 := by rw [ByteArray.size_append] at z2; omega
  refine Ctr.enter Tryd.func8 Tryd.ntmps8 rfl rfl (fun w _ => ?_)
  have hK0 : Kp w w [] := Kp.init (fun p hp => by cases hp)
  repeat (first | refine C.seq ?_ | refine C.region ?_ | refine L.nil ?_ | refine D.seq ?_ | refine L.assign (k := ?_) | refine C.no (h1 := ?_) | refine L.not (c := ?_) | refine C.skip ?_ | refine L.buildS (c := fun _ => ?_) | refine L.callQ (lives_S) (k := ?_))
  rename_i b1 b2
  refine keep2 (l1 := [1]) (l2 := [2]) hK0 (Nat.le_refl _) rfl (Nat.le_refl _) rfl (k := fun w1 hK1 => ?_)
  refine callE hK1 (subN [1] [2] 0 2 (by unfold nt okL; decide) (by unfold nt okL; decide) rfl rfl (.slice (some ⟨b1, 0, none⟩) 1 1) (.slice (some ⟨b2, 0, none⟩) 1 1)) (hpre := fun _ hw => ⟨hK1.rd (List.mem_cons_of_mem _ List.mem_cons_self) hw, hK1.rd List.mem_cons_self hw⟩) (k := fun v2 w2 hK2 => ?_)
  repeat (first | refine C.seq ?_ | refine C.region ?_ | refine L.nil ?_ | refine L.move (k := ?_) | refine L.assign (k := ?_) | refine L.extract (c := ?_) | refine D.seqR (h := ?_) | refine L.buildS (c := fun _ => ?_))
  rename_i b3 b4
  refine keep2 (l1 := [1]) (l2 := [0, 0]) hK2 (Nat.le_refl _) rfl (Nat.le_refl _) rfl (k := fun w3 hK3 => ?_)
  refine callV hK3 (hD1 (.slice (some ⟨b3, 0, none⟩) 1 1) (.slice (some ⟨b4, 0, none⟩) 2 2)) (hpre := fun _ hw => ⟨hK3.rd (List.mem_cons_of_mem _ List.mem_cons_self) hw, hK3.rd List.mem_cons_self hw⟩) (k := fun v4q v4r w4 hK4 => ?_)
  repeat (first | refine C.seq ?_ | refine C.region ?_ | refine L.nil ?_ | refine L.move (k := ?_) | refine L.assign (k := ?_) | refine L.extract (c := ?_) | refine D.seqR (h := ?_))
  refine callN hK4 (hB1) (hpre := fun _ _ => trivial) (k := fun v5 w5 hK5 => ?_)
  repeat (first | fail)
  refine callN hK5 (hB2) (hpre := fun _ _ => trivial) (k := fun v6 w6 hK6 => ?_)
  repeat (first | fail)
  refine callV hK6 (hD2 v5 v6) (hpre := fun _ hw => ⟨hK6.rd (List.mem_cons_of_mem _ List.mem_cons_self) hw, hK6.rd List.mem_cons_self hw⟩) (k := fun v7q v7r w7 hK7 => ?_)
  repeat (first | refine C.seq ?_ | refine C.region ?_ | refine L.nil ?_ | refine L.move (k := ?_) | refine L.assign (k := ?_) | refine L.extract (c := ?_) | refine D.seqR (h := ?_) | refine L.buildS (c := fun _ => ?_))
  rename_i b5
  refine keepB (l := [5, 0, 0]) hK7 (Nat.le_refl _) rfl (k := fun w8 hK8 => ?_)
  refine callL hK8 (fitS [5, 0, 0] 2 [5, 0] 0 (by unfold nt okL; decide) (by unfold I64'; omega) f1 (.slice (some ⟨b5, 0, none⟩) 3 3)) (hpre := fun _ hw => hK8.rd List.mem_cons_self hw) (k := fun v9 w9 hK9 => ?_)
  repeat (first | refine C.seq ?_ | refine C.region ?_ | refine L.nil ?_ | refine L.move (k := ?_) | refine L.assign (k := ?_) | refine L.extract (c := ?_) | refine D.seqR (h := ?_) | refine L.buildS (c := fun _ => ?_))
  rename_i b6
  refine keepB (l := [5, 1]) hK9 (Nat.le_refl _) rfl (k := fun w10 hK10 => ?_)
  refine callL hK10 (fitS [5, 1] 1 [] 3 (by unfold nt okL; decide) (by unfold I64'; omega) f2 (.slice (some ⟨b6, 0, none⟩) 2 2)) (hpre := fun _ hw => hK10.rd List.mem_cons_self hw) (k := fun v11 w11 hK11 => ?_)
  repeat (first | refine C.seq ?_ | refine C.region ?_ | refine L.nil ?_ | refine L.move (k := ?_) | refine L.assign (k := ?_) | refine L.extract (c := ?_) | refine D.seqR (h := ?_))
  refine callL hK11 (fitS [] (-1) [] 2 (by unfold nt okL; decide) (by unfold I64'; omega) f3 (.slice none 0 0)) (hpre := fun _ _ => Rd.nil) (k := fun v12 w12 hK12 => ?_)
  repeat (first | refine C.seq ?_ | refine C.region ?_ | refine L.nil ?_ | refine L.move (k := ?_) | refine L.assign (k := ?_) | refine L.extract (c := ?_) | refine D.seqR (h := ?_))
  refine callE hK12 (hR3) (hpre := fun _ _ => trivial) (k := fun v13 w13 hK13 => ?_)
  repeat (first | refine C.seq ?_ | refine C.region ?_ | refine L.nil ?_ | refine L.move (k := ?_) | refine L.assign (k := ?_) | refine L.extract (c := ?_) | refine D.seqR (h := ?_))
  refine callE hK13 (hR4) (hpre := fun _ _ => trivial) (k := fun v14 w14 hK14 => ?_)
  repeat (first | refine C.seq ?_ | refine C.region ?_ | refine L.nil ?_ | refine L.move (k := ?_) | refine L.assign (k := ?_) | refine L.extract (c := ?_) | refine D.seqR (h := ?_) | refine L.callQ (hT1) (k := ?_) | refine L.strAdd s1 (c := ?_))
  refine callE hK14 (hR5) (hpre := fun _ _ => trivial) (k := fun v15 w15 hK15 => ?_)
  repeat (first | refine C.seq ?_ | refine C.region ?_ | refine L.nil ?_ | refine L.move (k := ?_) | refine L.assign (k := ?_) | refine L.extract (c := ?_) | refine D.seqR (h := ?_) | refine L.callQ (hT2) (k := ?_) | refine L.strAdd s2 (c := ?_))
  refine callE hK15 (hR6) (hpre := fun _ _ => trivial) (k := fun v16 w16 hK16 => ?_)
  rw [c10] at hK16
  repeat (first | refine C.seq ?_ | refine C.region ?_ | refine L.nil ?_ | refine L.move (k := ?_) | refine L.assign (k := ?_) | refine L.cm (c := ?_) | refine L.extract (c := ?_) | refine L.pickT (k := ?_) | refine L.want (k := ?_) | refine D.seqR (h := ?_))
  refine callN hK16 (hB2) (hpre := fun _ _ => trivial) (k := fun v17 w17 hK17 => ?_)
  repeat (first | refine L.want (k := ?_))
  refine callN hK17 (mulN (can 22106072130223888666851440) (can 68414056839) 1512366075204170929049582351328998160 nq n2 (by simp only [lv_can]) v7q v17) (hpre := fun _ hw => ⟨hK17.rd (List.mem_cons_of_mem _ (List.mem_cons_of_mem _ (List.mem_cons_of_mem _ (List.mem_cons_of_mem _ (List.mem_cons_of_mem _ (List.mem_cons_of_mem _ (List.mem_cons_of_mem _ (List.mem_cons_of_mem _ (List.mem_cons_of_mem _ (List.mem_cons_of_mem _ (List.mem_cons_of_mem _ List.mem_cons_self))))))))))) hw, hK17.rd List.mem_cons_self hw⟩) (k := fun v18 w18 hK18 => ?_)
  repeat (first | refine L.move (k := ?_) | refine L.want (k := ?_))
  refine callN hK18 (addN (can 1512366075204170929049582351328998160) (can 3077561055) 1512366075204170929049582354406559215 nm nr (by simp only [lv_can]) v18 v7r) (hpre := fun _ hw => ⟨hK18.rd List.mem_cons_self hw, hK18.rd (List.mem_cons_of_mem _ (List.mem_cons_of_mem _ (List.mem_cons_of_mem _ (List.mem_cons_of_mem _ (List.mem_cons_of_mem _ (List.mem_cons_of_mem _ (List.mem_cons_of_mem _ (List.mem_cons_of_mem _ (List.mem_cons_of_mem _ (List.mem_cons_of_mem _ (List.mem_cons_of_mem _ List.mem_cons_self))))))))))) hw⟩) (k := fun v19 w19 hK19 => ?_)
  repeat (first | refine L.want (k := ?_))
  refine L.callQ (textS (can 1512366075204170929049582354406559215) _ n1 t1 v19) (hpre := fun _ hw => hK19.rd List.mem_cons_self hw) (k := ?_)
  repeat (first | refine L.strEq (hz := q1) (c := ?_) | refine L.move (k := ?_) | refine L.cm (c := ?_) | refine L.pickT (k := ?_) | refine L.want (k := ?_) | refine L.buildS (c := fun _ => ?_))
  rename_i b7
  refine keepB (l := [5, 0]) hK19 (Nat.le_refl _) rfl (k := fun w20 hK20 => ?_)
  refine L.callQ (sameT [5, 0] (by unfold nt okL; decide) v9 (.slice (some ⟨b7, 0, none⟩) 2 2)) (hpre := fun _ hw => ⟨hK20.rd (List.mem_cons_of_mem _ (List.mem_cons_of_mem _ (List.mem_cons_of_mem _ (List.mem_cons_of_mem _ (List.mem_cons_of_mem _ (List.mem_cons_of_mem _ (List.mem_cons_of_mem _ (List.mem_cons_of_mem _ (List.mem_cons_of_mem _ (List.mem_cons_of_mem _ (List.mem_cons_of_mem _ List.mem_cons_self))))))))))) hw, hK20.rd List.mem_cons_self hw⟩) (k := ?_)
  repeat (first | refine L.move (k := ?_) | refine L.cm (c := ?_) | refine L.pickT (k := ?_) | refine L.want (k := ?_) | refine L.buildS (c := fun _ => ?_))
  rename_i b8
  refine keepB (l := [10]) hK20 (Nat.le_refl _) rfl (k := fun w21 hK21 => ?_)
  refine L.callQ (sameT [10] (by unfold nt okL; decide) v16 (.slice (some ⟨b8, 0, none⟩) 1 1)) (hpre := fun _ hw => ⟨hK21.rd (List.mem_cons_of_mem _ (List.mem_cons_of_mem _ (List.mem_cons_of_mem _ (List.mem_cons_of_mem _ (List.mem_cons_of_mem _ List.mem_cons_self))))) hw, hK21.rd List.mem_cons_self hw⟩) (k := ?_)
  repeat (first | refine L.move (k := ?_) | refine L.pickT (k := ?_) | refine L.want (k := ?_) | refine L.buildS (c := fun _ => ?_))
  rename_i b9 b10
  refine keep2 (l1 := [1, 0]) (l2 := [1]) hK21 (Nat.le_refl _) rfl (Nat.le_refl _) rfl (k := fun w22 hK22 => ?_)
  refine L.callQ (cmpS [1, 0] [1] 0 (by unfold nt okL; decide) (by unfold nt okL; decide) rfl (.slice (some ⟨b9, 0, none⟩) 2 2) (.slice (some ⟨b10, 0, none⟩) 1 1)) (hpre := fun _ hw => ⟨hK22.rd (List.mem_cons_of_mem _ List.mem_cons_self) hw, hK22.rd List.mem_cons_self hw⟩) (k := ?_)
  repeat (first | refine L.move (k := ?_) | refine L.cm (c := ?_) | refine L.pickT (k := ?_) | refine L.want (k := ?_) | refine L.buildS (c := fun _ => ?_))
  rename_i b11 b12
  refine keep2 (l1 := [0, 1]) (l2 := [9]) hK22 (Nat.le_refl _) rfl (Nat.le_refl _) rfl (k := fun w23 hK23 => ?_)
  refine L.callQ (cmpS [0, 1] [9] 1 (by unfold nt okL; decide) (by unfold nt okL; decide) rfl (.slice (some ⟨b11, 0, none⟩) 2 2) (.slice (some ⟨b12, 0, none⟩) 1 1)) (hpre := fun _ hw => ⟨hK23.rd (List.mem_cons_of_mem _ List.mem_cons_self) hw, hK23.rd List.mem_cons_self hw⟩) (k := ?_)
  repeat (first | refine L.move (k := ?_) | refine L.cm (c := ?_) | refine L.pickT (k := ?_) | refine L.want (k := ?_) | refine L.buildS (c := fun _ => ?_))
  rename_i b13
  refine keepB (l := [0, 0]) hK23 (Nat.le_refl _) rfl (k := fun w24 hK24 => ?_)
  refine callN hK24 (trimN [0, 0] 0 (by unfold nt okL; decide) rfl (.slice (some ⟨b13, 0, none⟩) 2 2)) (hpre := fun _ hw => hK24.rd List.mem_cons_self hw) (k := fun v25 w25 hK25 => ?_)
  have st := hK25.sl List.mem_cons_self
  have e9 : cm .eql ((can 0).length : Int) 0 = true := by rw [hc0]; rfl
  repeat (first | refine L.move (k := ?_) | refine L.cm (c := ?_) | refine L.pickT (k := ?_) | refine L.want (k := ?_) | refine L.buildS (c := fun _ => ?_) | refine L.lenR st (c := ?_))
  rename_i b14
  refine keepB (l := [0, 1, 0]) hK25 (Nat.le_refl _) rfl (k := fun w26 hK26 => ?_)
  refine L.callQ (bitsS [0, 1, 0] 65 (by unfold nt okL; decide) (by decide +kernel) (.slice (some ⟨b14, 0, none⟩) 3 3)) (hpre := fun _ hw => hK26.rd List.mem_cons_self hw) (k := ?_)
  repeat (first | refine L.move (k := ?_) | refine L.cm (c := ?_) | refine L.pickT (k := ?_) | refine L.want (k := ?_) | refine L.buildS (c := fun _ => ?_))
  rename_i b15
  refine keepB (l := [0, 2]) hK26 (Nat.le_refl _) rfl (k := fun w27 hK27 => ?_)
  refine L.callQ (bitT [0, 2] 65 true (by unfold nt okL; decide) (by unfold I64'; omega) (by decide +kernel) (.slice (some ⟨b15, 0, none⟩) 2 2)) (hpre := fun _ hw => hK27.rd List.mem_cons_self hw) (k := ?_)
  repeat (first | refine L.move (k := ?_) | refine L.pickT (k := ?_) | refine L.want (k := ?_) | refine L.buildS (c := fun _ => ?_))
  rename_i b16
  refine keepB (l := [1]) hK27 (Nat.le_refl _) rfl (k := fun w28 hK28 => ?_)
  refine L.callQ (bitT [1] (-1) false (by unfold nt okL; decide) (by unfold I64'; omega) (by decide +kernel) (.slice (some ⟨b16, 0, none⟩) 1 1)) (hpre := fun _ hw => hK28.rd List.mem_cons_self hw) (k := ?_)
  repeat (first | refine L.move (k := ?_) | refine L.pickT (k := ?_) | refine L.want (k := ?_) | refine L.not (c := ?_))
  refine L.callQ (bitT [] 70 false (by unfold nt okL; decide) (by unfold I64'; omega) (by decide +kernel) (.slice none 0 0)) (hpre := fun _ _ => Rd.nil) (k := ?_)
  repeat (first | refine L.move (k := ?_) | refine L.pickT (k := ?_) | refine L.want (k := ?_) | refine L.not (c := ?_) | refine L.buildS (c := fun _ => ?_))
  rename_i b17
  refine keepB (l := [7, 0, 3]) hK28 (Nat.le_refl _) rfl (k := fun w29 hK29 => ?_)
  refine callN hK29 (lowN [7, 0, 3] 2 7 (by unfold nt okL; decide) rfl (.slice (some ⟨b17, 0, none⟩) 3 3)) (hpre := fun _ hw => hK29.rd List.mem_cons_self hw) (k := fun v30 w30 hK30 => ?_)
  rw [c7] at hK30
  repeat (first | refine L.want (k := ?_) | refine L.buildS (c := fun _ => ?_))
  rename_i b18
  refine keepB (l := [7]) hK30 (Nat.le_refl _) rfl (k := fun w31 hK31 => ?_)
  refine L.callQ (sameT [7] (by unfold nt okL; decide) v30 (.slice (some ⟨b18, 0, none⟩) 1 1)) (hpre := fun _ hw => ⟨hK31.rd (List.mem_cons_of_mem _ List.mem_cons_self) hw, hK31.rd List.mem_cons_self hw⟩) (k := ?_)
  repeat (first | refine L.move (k := ?_) | refine L.pickT (k := ?_) | refine L.want (k := ?_))
  refine L.callQ (textS [] [48] (by unfold nt okL; decide) (by decide +kernel) (.slice none 0 0)) (hpre := fun _ _ => Rd.nil) (k := ?_)
  repeat (first | refine L.strEq (hz := q2) (c := ?_) | refine L.move (k := ?_) | refine L.pickT (k := ?_) | refine L.want (k := ?_) | refine L.buildS (c := fun _ => ?_))
  rename_i b19 b20
  refine keep2 (l1 := [18446744073709551615]) (l2 := [1]) hK31 (Nat.le_refl _) rfl (Nat.le_refl _) rfl (k := fun w32 hK32 => ?_)
  refine callN hK32 (addN [18446744073709551615] [1] 18446744073709551616 (by unfold nt okL; decide) (by unfold nt okL; decide) rfl (.slice (some ⟨b19, 0, none⟩) 1 1) (.slice (some ⟨b20, 0, none⟩) 1 1)) (hpre := fun _ hw => ⟨hK32.rd (List.mem_cons_of_mem _ List.mem_cons_self) hw, hK32.rd List.mem_cons_self hw⟩) (k := fun v33 w33 hK33 => ?_)
  rw [c64] at hK33
  repeat (first | refine L.want (k := ?_) | refine L.buildS (c := fun _ => ?_))
  rename_i b21
  refine keepB (l := [0, 1]) hK33 (Nat.le_refl _) rfl (k := fun w34 hK34 => ?_)
  refine L.callQ (sameT [0, 1] (by unfold nt okL; decide) v33 (.slice (some ⟨b21, 0, none⟩) 2 2)) (hpre := fun _ hw => ⟨hK34.rd (List.mem_cons_of_mem _ List.mem_cons_self) hw, hK34.rd List.mem_cons_self hw⟩) (k := ?_)
  repeat (first | refine L.nil ?_ | refine L.assign (k := ?_) | refine L.pickT (k := ?_) | refine C.ret ?_ | refine D.seqR (h := ?_))
  (refine D.ret (vs := [_]) (RV.tmp rfl RV.nil) ?_; intro w' hw; exact Post.mk (is := []) (hK34.bk _ _ hw) List.nodup_nil rfl ⟨rfl, rfl⟩)
theorem _root_.Go.Proofs.YtpemoeincepilaaDoor.natNames_walk (w : World) :
    Calls Tryd.prog 8 #[] w fun e w' => e = .returned (.bool true) ∧ Below w.heap.size w w' :=
  names_S.true w trivial
end Go.Proofs.YtpemoeincepilaaDoor.Nt
