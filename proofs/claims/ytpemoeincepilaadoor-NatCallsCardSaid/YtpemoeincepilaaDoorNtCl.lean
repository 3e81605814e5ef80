/- The law NatCalls: its walk. Conditions: limbs are numbers of 64 bits; the tables of unicode lie as they are laid. -/
import Derived.Test.YtpemoeincepilaaDoorNtRd
import Derived.Test.YtpemoeincepilaaDoorNtRe
import Derived.Test.YtpemoeincepilaaDoorNtHl
import Derived.Test.YtpemoeincepilaaDoorNtTx
import Derived.Test.YtpemoeincepilaaDoorFrN
import Derived.Lib.LaidCase
import Derived.Lib.LaidU8
import Derived.PinnedBridge
import Derived.MakeChecks
set_option linter.unusedVariables false
set_option linter.unusedSimpArgs false
namespace Go.Proofs.YtpemoeincepilaaDoor.Nt
open Go Go.RowKit SL Go.Shelf
attribute [local irreducible] SL.L SL.C SL.D SL.N SL.H SL.QL SL.QW SL.QP

theorem textS (l : List Nat) (t : List UInt8) (hl : nt l) (h : text8 (lv l) = t) (v : Value) : Ctr Tryd.prog 11 [v] [] (fun w => RdN w [] v l) (is (.string ⟨t.toArray⟩) []) := by
  subst h; exact text_S l hl.1 (by have := hl.2; omega) v
theorem fitS (l : List Nat) (k : Int) (f : List Nat) (e : Int) (hl : nt l) (hk : I64' k) (h : fitL (lv l) k = (f, e)) (v : Value) : Ctr Tryd.prog 21 [v, .int .i64 k] [] (fun w => RdN w [] v l) (rowE f e) := by
  have := fit_S l hl v k hk
  rw [h] at this; exact this
/-- The tables that ToLower reads. -/
def Tabs (w : World) : Prop := Lib.CaseVar (Tryd.lowerLay_ren.g 13) Lib.caseA w ∧ Lib.Utf8Tabs (Tryd.lowerLay_ren.g 3) (Tryd.lowerLay_ren.g 4) w
theorem Tabs.at {w w' : World} (h : Tabs w) (hw : At w [] [] w') : Tabs w' := ⟨Lib.CaseVar_below h.1 hw.keeps.below, Utf8Tabs_below h.2 hw.keeps.below⟩
theorem Tabs.bel {w w' : World} {M : Hp} (h : Tabs w) (hw : At w [] M w') : Tabs w' := ⟨Lib.CaseVar_below h.1 hw.keeps.below, Utf8Tabs_below h.2 hw.keeps.below⟩
theorem lowG_S (s : ByteArray) (hs : s.size < 35184372088832) : Ctr Tryd.prog 46 [.string s] [] Tabs (is (.string ⟨(Lib.toLowerD s.data.toList).toArray⟩) []) :=
  spec_n (fun w hp => Any.strings_ToLower_any Tryd.lowerLay Tryd.lowerExtra s w hs hp.1 hp.2)
theorem mapGo_len (f : Int → Int) : ∀ (n : Nat) (l : List UInt8), (Lib.mapGoD f n l).length ≤ 4 * n
  | 0, _ => Nat.zero_le _
  | n + 1, l => by
    unfold Lib.mapGoD
    split
    · simp
    · have h := mapGo_len f n (l.drop (Lib.decodeL l).2)
      have h4 : ∀ v : Int, (Lib.encodeRune v).length ≤ 4 := fun v => by
        unfold Lib.encodeRune Lib.encodeRuneZ
        rw [List.length_map]
        repeat' split
        all_goals simp
      rw [List.length_append]
      split
      · have := h4 (f (Lib.decodeL l).1); omega
      · simp; omega
theorem toLowerD_len (l : List UInt8) : (Lib.toLowerD l).length ≤ 4 * l.length := mapGo_len _ _ _
theorem toLowerD_ne {l : List UInt8} (h : l ≠ []) : Lib.toLowerD l ≠ [] := by
  by_cases ha : ∀ b ∈ l, b.toNat < 128
  · rw [Lib.toLowerD_ascii _ ha]
    unfold Lib.toLowerA
    simpa using h
  · have hb : ∃ b ∈ l, 128 ≤ b.toNat := by
      apply Classical.byContradiction
      intro hn
      exact ha fun b hb => Classical.byContradiction fun h => hn ⟨b, hb, by omega⟩
    obtain ⟨c, hc, _⟩ := lower_bad hb
    intro e
    rw [e] at hc; cases hc
theorem readG_S (s : ByteArray) (n : Nat) (e : Int) (hs : s.size ≤ 50000) (h : (if s.size = 0 then (0, 2) else if (∀ c ∈ nb s, dv c < 16) then (if 8192 < ndig (rdT (nb s)) then (0, 3) else (rdT (nb s), 0)) else (0, 7) : Nat × Int) = (n, e)) : Ctr Tryd.prog 12 [.string s] [] Tabs (natE n e) := by
  have hlen := toLowerD_len s.data.toList
  have hsz : s.data.toList.length = s.size := rfl
  have := read_S s (Lib.toLowerD s.data.toList) Tabs (fun _ _ h hw => h.at hw) (by omega) (fun h0 => toLowerD_ne (fun e => h0 (by rw [← hsz, e]; rfl))) (lowG_S s (by omega))
  rw [readE_at, h] at this; exact this
theorem seq_same (s : ByteArray) : seq s s = true := by unfold seq; simp
theorem fit_nt {n : Nat} {k : Int} (h : (can n).length ≤ 1000) : nt (fitL n k).1 := by
  unfold fitL
  split
  · exact ⟨(fun x hx => by cases hx), by simp⟩
  · split
    · exact ⟨(fun x hx => by cases hx), by simp⟩
    · exact ⟨okL_app (can_ok n) (fun x hx => by rw [List.eq_of_mem_replicate hx]; omega), by rw [List.length_append, List.length_replicate]; omega⟩
set_option maxRecDepth 100000 in
set_option maxHeartbeats 40000000 in
theorem calls_S (a b : List Nat) (oa : okL a) (ob' : okL b) (ma : a.length ≤ maxLen) (mb : b.length ≤ maxLen) (va vb : Value) (k i : Int) (hk : I64' k) (hi : I64' i) (s : ByteArray) :
    Ctr Tryd.prog 9 [va, vb, .int .i64 k, .int .i64 i, .string s] [] (fun w => (RdN w [] va a ∧ RdN w [] vb b) ∧ Tabs w) (is (.bool true) []) := by
  refine Ctr.enter Tryd.func9 Tryd.ntmps9 rfl rfl (fun w hr => ?_)
  obtain ⟨⟨ra, rb⟩, hT⟩ := hr
  have sa := ra.1
  have sb := rb.1
  have hK0 : Kp w w [(va, a), (vb, b)] := Kp.init (fun p hp => by
    simp only [List.mem_cons, List.not_mem_nil, or_false] at hp
    rcases hp with rfl | rfl
    · exact ra
    · exact rb)
  have hLt := light_S va vb a.length b.length sa sb ma
  by_cases h1 : a.length ≤ 12 ∧ b.length ≤ 12
  case neg =>
    rw [decide_eq_false h1] at hLt
    repeat (first | refine C.seq ?_ | refine C.region ?_ | refine L.nil ?_ | refine D.seq ?_ | refine L.move (k := ?_) | refine L.assign (k := ?_) | refine C.yes (h1 := ?_) | refine C.no (h1 := ?_) | refine L.pickT (k := ?_) | refine L.pass (k := ?_) | refine L.not (c := ?_) | refine C.ret ?_ | refine D.thenRet ?_ | refine C.skip ?_ | refine L.callQ (lives_S) (k := ?_) | refine L.callQ (hLt) (k := ?_))
    (refine D.ret (vs := [_]) (RV.tmp rfl RV.nil) ?_; intro w' hw; exact Post.mk (is := []) hw List.nodup_nil rfl ⟨rfl, rfl⟩)
  rw [decide_eq_true h1] at hLt
  by_cases h2 : 200 < s.size
  · have c2 : cm .gtr (s.size : Int) 200 = true := cm_gt (by omega)
    repeat (first | refine C.seq ?_ | refine C.region ?_ | refine L.nil ?_ | refine D.seq ?_ | refine L.move (k := ?_) | refine L.assign (k := ?_) | refine L.cm (c := ?_) | refine C.yes (h1 := ?_) | refine C.no (h1 := ?_) | refine L.pickT (k := ?_) | refine L.pickF (k := ?_) | refine L.want (k := ?_) | refine L.pass (k := ?_) | refine L.not (c := ?_) | refine L.lenS (c := ?_) | refine C.ret ?_ | refine D.thenRet ?_ | refine C.skip ?_ | refine L.callQ (lives_S) (k := ?_) | refine L.callQ (hLt) (k := ?_))
    (refine D.ret (vs := [_]) (RV.tmp rfl RV.nil) ?_; intro w' hw; exact Post.mk (is := []) hw List.nodup_nil rfl ⟨rfl, rfl⟩)
  have c2 : cm .gtr (s.size : Int) 200 = false := cm_gt' (by omega)
  by_cases h3 : 1000 < k
  · have c3 : cm .gtr k 1000 = true := cm_gt h3
    repeat (first | refine C.seq ?_ | refine C.region ?_ | refine L.nil ?_ | refine D.seq ?_ | refine L.move (k := ?_) | refine L.assign (k := ?_) | refine L.cm (c := ?_) | refine C.yes (h1 := ?_) | refine C.no (h1 := ?_) | refine L.pickF (k := ?_) | refine L.want (k := ?_) | refine L.not (c := ?_) | refine L.lenS (c := ?_) | refine C.ret ?_ | refine D.thenRet ?_ | refine C.skip ?_ | refine L.callQ (lives_S) (k := ?_) | refine L.callQ (hLt) (k := ?_))
    (refine D.ret (vs := [_]) (RV.tmp rfl RV.nil) ?_; intro w' hw; exact Post.mk (is := []) hw List.nodup_nil rfl ⟨rfl, rfl⟩)
  have c3 : cm .gtr k 1000 = false := cm_gt' (by omega)
  have na : nt a := ⟨oa, by omega⟩
  have nb' : nt b := ⟨ob', by omega⟩
  have xa : sm 12 (lv a) := sm_lv oa h1.1
  have xb : sm 12 (lv b) := sm_lv ob' h1.2
  have hD1 := div_S a b oa ob' (by omega) (by omega) va vb
  have hD2 := div2_S a b oa ob' (by omega) (by omega) va vb
  obtain ⟨dq, dr, de, hd1, hd2, xq, xr⟩ : ∃ (dq dr : Nat) (de : Int), Ctr Tryd.prog 28 [va, vb] [] (fun w => RdN w [] va a ∧ RdN w [] vb b) (divR dq dr de) ∧ Ctr Tryd.prog 32 [va, vb] [] (fun w => RdN w [] va a ∧ RdN w [] vb b) (divR dq dr de) ∧ sm 12 dq ∧ sm 12 dr := by
    by_cases hz : lv b = 0
    · rw [if_pos hz] at hD1 hD2
      exact ⟨0, 0, 2, hD1, hD2, by unfold sm; decide, by unfold sm; decide⟩
    · rw [if_neg hz] at hD1 hD2
      exact ⟨_, _, 0, hD1, hD2, Nat.lt_of_le_of_lt (Nat.div_le_self _ _) xa, Nat.lt_of_le_of_lt (Nat.mod_le _ _) xa⟩
  have nq := nt_can xq (by omega)
  have nr := nt_can xr (by omega)
  obtain ⟨X, hX⟩ : ∃ X, lv a - lv b = X := ⟨_, rfl⟩
  obtain ⟨E1, hE1⟩ : ∃ E1, (if lv a < lv b then (2 : Int) else 0) = E1 := ⟨_, rfl⟩
  have nX := nt_can (n := X) (k := 12) (by rw [← hX]; exact Nat.lt_of_le_of_lt (Nat.sub_le _ _) xa) (by omega)
  have hcl := sm_len xa
  obtain ⟨f, ef, hf⟩ : ∃ f ef, fitL (lv a) k = (f, ef) := ⟨_, _, rfl⟩
  have nf : nt f := by
    have := fit_nt (n := lv a) (k := k) (by omega)
    rw [hf] at this; exact this
  obtain ⟨n, er, hn⟩ : ∃ n er, (if s.size = 0 then (0, 2) else if (∀ c ∈ nb s, dv c < 16) then (if 8192 < ndig (rdT (nb s)) then (0, 3) else (rdT (nb s), 0)) else (0, 7) : Nat × Int) = (n, er) := ⟨_, _, rfl⟩
  have hR1 := readG_S s n er (by omega) hn
  have hR2 := read2_S s n er (by omega) hn
  have xn : sm 13 n := by
    have h0 : sm 13 0 := by unfold sm; decide
    split at hn
    · obtain ⟨rfl, _⟩ := Prod.mk.inj hn; exact h0
    · split at hn
      · rename_i hd
        split at hn
        · obtain ⟨rfl, _⟩ := Prod.mk.inj hn; exact h0
        · obtain ⟨e1, _⟩ := Prod.mk.inj hn
          have h := rdN_lt (l := (nb s).map dv) (fun d hd' => by obtain ⟨c, hc, rfl⟩ := List.mem_map.1 hd'; exact hd c hc)
          rw [List.length_map, nb_len2] at h
          have h2 : 16 ^ s.size ≤ 16 ^ 208 := Nat.pow_le_pow_right (by omega) (by omega)
          unfold sm
          rw [← e1]
          exact Nat.lt_of_lt_of_le h (Nat.le_trans h2 (by decide))
      · obtain ⟨rfl, _⟩ := Prod.mk.inj hn; exact h0
  have nn := nt_can xn (by omega)
  have nA := nt_can xa (by omega)
  have nS := nt_can (sm_add (sm_le xa (by omega : 12 ≤ 13)) (sm_le xb (by omega : 12 ≤ 13))) (by omega)
  have nM := nt_can (sm_mul xa xb) (by omega)
  obtain ⟨lw, hL⟩ : ∃ lw, lv (a.take (lowK a k)) = lw := ⟨_, rfl⟩
  have nL := nt_can (n := lw) (k := 12) (by
    rw [← hL]
    exact sm_lv (okL_take oa _) (by rw [List.length_take]; omega)) (by omega)
  obtain ⟨bt, hbt⟩ : ∃ bt, (decide (0 ≤ i) && (lv a).testBit i.toNat) = bt := ⟨_, rfl⟩
  have g1 : cm .neq E1 E1 = false := cm_ne' rfl
  have g2 : cm .neq de de = false := cm_ne' rfl
  have g3 : cm .neq ef ef = false := cm_ne' rfl
  have g4 : cm .neq er er = false := cm_ne' rfl
  have g5 : cm .eql (cmpN (lv a) (lv b)) (cmpN (lv a) (lv b)) = true := cm_yes rfl
  have g6 : cm .eql (bitsN (lv a) : Int) (bitsN (lv a) : Int) = true := cm_yes rfl
  have g7 := seq_same ⟨(text8 (lv a)).toArray⟩
  have g8 : (bt == bt) = true := by simp
  repeat (first | refine C.seq ?_ | refine C.region ?_ | refine L.nil ?_ | refine D.seq ?_ | refine L.move (k := ?_) | refine L.assign (k := ?_) | refine L.cm (c := ?_) | refine C.no (h1 := ?_) | refine L.pickF (k := ?_) | refine L.want (k := ?_) | refine L.not (c := ?_) | refine L.lenS (c := ?_) | refine C.skip ?_ | refine L.callQ (lives_S) (k := ?_) | refine L.callQ (hLt) (k := ?_))
  refine callE hK0 (subN a b X E1 na nb' hX hE1 va vb) (hpre := fun _ hw => ⟨hK0.rd List.mem_cons_self hw, hK0.rd (List.mem_cons_of_mem _ List.mem_cons_self) hw⟩) (k := fun v1 w1 hK1 => ?_)
  repeat (first | refine C.seq ?_ | refine C.region ?_ | refine L.nil ?_ | refine L.move (k := ?_) | refine L.assign (k := ?_) | refine L.extract (c := ?_) | refine D.seqR (h := ?_))
  refine callE hK1 (sub2_S a b X E1 na nb' hX hE1 va vb) (hpre := fun _ hw => ⟨hK1.rd (List.mem_cons_of_mem _ List.mem_cons_self) hw, hK1.rd (List.mem_cons_of_mem _ (List.mem_cons_of_mem _ List.mem_cons_self)) hw⟩) (k := fun v2 w2 hK2 => ?_)
  repeat (first | refine C.seq ?_ | refine C.region ?_ | refine L.nil ?_ | refine L.move (k := ?_) | refine L.assign (k := ?_) | refine L.extract (c := ?_) | refine D.seqR (h := ?_))
  refine callV hK2 (hd1) (hpre := fun _ hw => ⟨hK2.rd (List.mem_cons_of_mem _ (List.mem_cons_of_mem _ List.mem_cons_self)) hw, hK2.rd (List.mem_cons_of_mem _ (List.mem_cons_of_mem _ (List.mem_cons_of_mem _ List.mem_cons_self))) hw⟩) (k := fun v3q v3r w3 hK3 => ?_)
  repeat (first | refine C.seq ?_ | refine C.region ?_ | refine L.nil ?_ | refine L.move (k := ?_) | refine L.assign (k := ?_) | refine L.extract (c := ?_) | refine D.seqR (h := ?_))
  refine callV hK3 (hd2) (hpre := fun _ hw => ⟨hK3.rd (List.mem_cons_of_mem _ (List.mem_cons_of_mem _ (List.mem_cons_of_mem _ (List.mem_cons_of_mem _ List.mem_cons_self)))) hw, hK3.rd (List.mem_cons_of_mem _ (List.mem_cons_of_mem _ (List.mem_cons_of_mem _ (List.mem_cons_of_mem _ (List.mem_cons_of_mem _ List.mem_cons_self))))) hw⟩) (k := fun v4q v4r w4 hK4 => ?_)
  repeat (first | refine C.seq ?_ | refine C.region ?_ | refine L.nil ?_ | refine L.move (k := ?_) | refine L.assign (k := ?_) | refine L.extract (c := ?_) | refine D.seqR (h := ?_))
  refine callL hK4 (fitS a k f ef na hk hf va) (hpre := fun _ hw => hK4.rd (List.mem_cons_of_mem _ (List.mem_cons_of_mem _ (List.mem_cons_of_mem _ (List.mem_cons_of_mem _ (List.mem_cons_of_mem _ (List.mem_cons_of_mem _ List.mem_cons_self)))))) hw) (k := fun v5 w5 hK5 => ?_)
  repeat (first | refine C.seq ?_ | refine C.region ?_ | refine L.nil ?_ | refine L.move (k := ?_) | refine L.assign (k := ?_) | refine L.extract (c := ?_) | refine D.seqR (h := ?_))
  refine callL hK5 (fit2_S a k f ef na hk hf va) (hpre := fun _ hw => hK5.rd (List.mem_cons_of_mem _ (List.mem_cons_of_mem _ (List.mem_cons_of_mem _ (List.mem_cons_of_mem _ (List.mem_cons_of_mem _ (List.mem_cons_of_mem _ (List.mem_cons_of_mem _ List.mem_cons_self))))))) hw) (k := fun v6 w6 hK6 => ?_)
  repeat (first | refine C.seq ?_ | refine C.region ?_ | refine L.nil ?_ | refine L.move (k := ?_) | refine L.assign (k := ?_) | refine L.extract (c := ?_) | refine D.seqR (h := ?_))
  refine callE hK6 hR1 (hpre := fun w' hw => (hT.bel (hK6.bk _ _ hw))) (k := fun v7 w7 hK7 => ?_)
  repeat (first | refine C.seq ?_ | refine C.region ?_ | refine L.nil ?_ | refine L.move (k := ?_) | refine L.assign (k := ?_) | refine L.extract (c := ?_) | refine D.seqR (h := ?_))
  refine callE hK7 (hR2) (hpre := fun _ _ => trivial) (k := fun v8 w8 hK8 => ?_)
  repeat (first | refine C.seq ?_ | refine C.region ?_ | refine L.nil ?_ | refine L.move (k := ?_) | refine L.assign (k := ?_) | refine L.extract (c := ?_) | refine D.seqR (h := ?_))
  refine L.callQ (sameT (can X) nX v1 v2) (hpre := fun _ hw => ⟨hK8.rd (List.mem_cons_of_mem _ (List.mem_cons_of_mem _ (List.mem_cons_of_mem _ (List.mem_cons_of_mem _ (List.mem_cons_of_mem _ (List.mem_cons_of_mem _ (List.mem_cons_of_mem _ (List.mem_cons_of_mem _ (List.mem_cons_of_mem _ List.mem_cons_self))))))))) hw, hK8.rd (List.mem_cons_of_mem _ (List.mem_cons_of_mem _ (List.mem_cons_of_mem _ (List.mem_cons_of_mem _ (List.mem_cons_of_mem _ (List.mem_cons_of_mem _ (List.mem_cons_of_mem _ (List.mem_cons_of_mem _ List.mem_cons_self)))))))) hw⟩) (k := ?_)
  repeat (first | refine L.move (k := ?_) | refine L.cm (c := ?_) | refine L.pickF (k := ?_) | refine L.want (k := ?_) | refine L.not (c := ?_))
  refine L.callQ (sameT (can dq) nq v3q v4q) (hpre := fun _ hw => ⟨hK8.rd (List.mem_cons_of_mem _ (List.mem_cons_of_mem _ (List.mem_cons_of_mem _ (List.mem_cons_of_mem _ (List.mem_cons_of_mem _ (List.mem_cons_of_mem _ (List.mem_cons_of_mem _ List.mem_cons_self))))))) hw, hK8.rd (List.mem_cons_of_mem _ (List.mem_cons_of_mem _ (List.mem_cons_of_mem _ (List.mem_cons_of_mem _ (List.mem_cons_of_mem _ List.mem_cons_self))))) hw⟩) (k := ?_)
  repeat (first | refine L.move (k := ?_) | refine L.pickF (k := ?_) | refine L.want (k := ?_) | refine L.not (c := ?_))
  refine L.callQ (sameT (can dr) nr v3r v4r) (hpre := fun _ hw => ⟨hK8.rd (List.mem_cons_of_mem _ (List.mem_cons_of_mem _ (List.mem_cons_of_mem _ (List.mem_cons_of_mem _ (List.mem_cons_of_mem _ (List.mem_cons_of_mem _ List.mem_cons_self)))))) hw, hK8.rd (List.mem_cons_of_mem _ (List.mem_cons_of_mem _ (List.mem_cons_of_mem _ (List.mem_cons_of_mem _ List.mem_cons_self)))) hw⟩) (k := ?_)
  repeat (first | refine L.move (k := ?_) | refine L.cm (c := ?_) | refine L.pickF (k := ?_) | refine L.want (k := ?_) | refine L.not (c := ?_))
  refine L.callQ (sameT (f) nf v5 v6) (hpre := fun _ hw => ⟨hK8.rd (List.mem_cons_of_mem _ (List.mem_cons_of_mem _ (List.mem_cons_of_mem _ List.mem_cons_self))) hw, hK8.rd (List.mem_cons_of_mem _ (List.mem_cons_of_mem _ List.mem_cons_self)) hw⟩) (k := ?_)
  repeat (first | refine L.move (k := ?_) | refine L.cm (c := ?_) | refine L.pickF (k := ?_) | refine L.want (k := ?_) | refine L.not (c := ?_))
  refine L.callQ (sameT (can n) nn v7 v8) (hpre := fun _ hw => ⟨hK8.rd (List.mem_cons_of_mem _ List.mem_cons_self) hw, hK8.rd List.mem_cons_self hw⟩) (k := ?_)
  repeat (first | refine C.seq ?_ | refine C.region ?_ | refine L.nil ?_ | refine D.seq ?_ | refine L.move (k := ?_) | refine L.cm (c := ?_) | refine C.no (h1 := ?_) | refine L.pickF (k := ?_) | refine L.want (k := ?_) | refine L.not (c := ?_) | refine C.skip ?_)
  refine callN hK8 (trimN a (lv a) na rfl va) (hpre := fun _ hw => hK8.rd (List.mem_cons_of_mem _ (List.mem_cons_of_mem _ (List.mem_cons_of_mem _ (List.mem_cons_of_mem _ (List.mem_cons_of_mem _ (List.mem_cons_of_mem _ (List.mem_cons_of_mem _ (List.mem_cons_of_mem _ (List.mem_cons_of_mem _ (List.mem_cons_of_mem _ List.mem_cons_self)))))))))) hw) (k := fun v9 w9 hK9 => ?_)
  repeat (first | refine L.move (k := ?_))
  refine callN hK9 (trim2N a (lv a) na rfl va) (hpre := fun _ hw => hK9.rd (List.mem_cons_of_mem _ (List.mem_cons_of_mem _ (List.mem_cons_of_mem _ (List.mem_cons_of_mem _ (List.mem_cons_of_mem _ (List.mem_cons_of_mem _ (List.mem_cons_of_mem _ (List.mem_cons_of_mem _ (List.mem_cons_of_mem _ (List.mem_cons_of_mem _ (List.mem_cons_of_mem _ List.mem_cons_self))))))))))) hw) (k := fun v10 w10 hK10 => ?_)
  repeat (first | fail)
  refine L.callQ (sameT (can (lv a)) nA v9 v10) (hpre := fun _ hw => ⟨hK10.rd (List.mem_cons_of_mem _ List.mem_cons_self) hw, hK10.rd List.mem_cons_self hw⟩) (k := ?_)
  repeat (first | refine L.move (k := ?_) | refine L.want (k := ?_))
  refine L.callQ (cmpS a b _ na nb' rfl va vb) (hpre := fun _ hw => ⟨hK10.rd (List.mem_cons_of_mem _ (List.mem_cons_of_mem _ (List.mem_cons_of_mem _ (List.mem_cons_of_mem _ (List.mem_cons_of_mem _ (List.mem_cons_of_mem _ (List.mem_cons_of_mem _ (List.mem_cons_of_mem _ (List.mem_cons_of_mem _ (List.mem_cons_of_mem _ (List.mem_cons_of_mem _ (List.mem_cons_of_mem _ List.mem_cons_self)))))))))))) hw, hK10.rd (List.mem_cons_of_mem _ (List.mem_cons_of_mem _ (List.mem_cons_of_mem _ (List.mem_cons_of_mem _ (List.mem_cons_of_mem _ (List.mem_cons_of_mem _ (List.mem_cons_of_mem _ (List.mem_cons_of_mem _ (List.mem_cons_of_mem _ (List.mem_cons_of_mem _ (List.mem_cons_of_mem _ (List.mem_cons_of_mem _ (List.mem_cons_of_mem _ List.mem_cons_self))))))))))))) hw⟩) (k := ?_)
  repeat (first | refine L.move (k := ?_) | refine L.want (k := ?_))
  refine L.callQ (cmp2_S a b _ na nb' rfl va vb) (hpre := fun _ hw => ⟨hK10.rd (List.mem_cons_of_mem _ (List.mem_cons_of_mem _ (List.mem_cons_of_mem _ (List.mem_cons_of_mem _ (List.mem_cons_of_mem _ (List.mem_cons_of_mem _ (List.mem_cons_of_mem _ (List.mem_cons_of_mem _ (List.mem_cons_of_mem _ (List.mem_cons_of_mem _ (List.mem_cons_of_mem _ (List.mem_cons_of_mem _ List.mem_cons_self)))))))))))) hw, hK10.rd (List.mem_cons_of_mem _ (List.mem_cons_of_mem _ (List.mem_cons_of_mem _ (List.mem_cons_of_mem _ (List.mem_cons_of_mem _ (List.mem_cons_of_mem _ (List.mem_cons_of_mem _ (List.mem_cons_of_mem _ (List.mem_cons_of_mem _ (List.mem_cons_of_mem _ (List.mem_cons_of_mem _ (List.mem_cons_of_mem _ (List.mem_cons_of_mem _ List.mem_cons_self))))))))))))) hw⟩) (k := ?_)
  repeat (first | refine L.move (k := ?_) | refine L.cm (c := ?_) | refine L.pickT (k := ?_) | refine L.want (k := ?_))
  refine callN hK10 (addN a b (lv a + lv b) na nb' rfl va vb) (hpre := fun _ hw => ⟨hK10.rd (List.mem_cons_of_mem _ (List.mem_cons_of_mem _ (List.mem_cons_of_mem _ (List.mem_cons_of_mem _ (List.mem_cons_of_mem _ (List.mem_cons_of_mem _ (List.mem_cons_of_mem _ (List.mem_cons_of_mem _ (List.mem_cons_of_mem _ (List.mem_cons_of_mem _ (List.mem_cons_of_mem _ (List.mem_cons_of_mem _ List.mem_cons_self)))))))))))) hw, hK10.rd (List.mem_cons_of_mem _ (List.mem_cons_of_mem _ (List.mem_cons_of_mem _ (List.mem_cons_of_mem _ (List.mem_cons_of_mem _ (List.mem_cons_of_mem _ (List.mem_cons_of_mem _ (List.mem_cons_of_mem _ (List.mem_cons_of_mem _ (List.mem_cons_of_mem _ (List.mem_cons_of_mem _ (List.mem_cons_of_mem _ (List.mem_cons_of_mem _ List.mem_cons_self))))))))))))) hw⟩) (k := fun v11 w11 hK11 => ?_)
  repeat (first | refine L.move (k := ?_) | refine L.want (k := ?_))
  refine callN hK11 (add2_S a b (lv a + lv b) na nb' rfl va vb) (hpre := fun _ hw => ⟨hK11.rd (List.mem_cons_of_mem _ (List.mem_cons_of_mem _ (List.mem_cons_of_mem _ (List.mem_cons_of_mem _ (List.mem_cons_of_mem _ (List.mem_cons_of_mem _ (List.mem_cons_of_mem _ (List.mem_cons_of_mem _ (List.mem_cons_of_mem _ (List.mem_cons_of_mem _ (List.mem_cons_of_mem _ (List.mem_cons_of_mem _ (List.mem_cons_of_mem _ List.mem_cons_self))))))))))))) hw, hK11.rd (List.mem_cons_of_mem _ (List.mem_cons_of_mem _ (List.mem_cons_of_mem _ (List.mem_cons_of_mem _ (List.mem_cons_of_mem _ (List.mem_cons_of_mem _ (List.mem_cons_of_mem _ (List.mem_cons_of_mem _ (List.mem_cons_of_mem _ (List.mem_cons_of_mem _ (List.mem_cons_of_mem _ (List.mem_cons_of_mem _ (List.mem_cons_of_mem _ (List.mem_cons_of_mem _ List.mem_cons_self)))))))))))))) hw⟩) (k := fun v12 w12 hK12 => ?_)
  repeat (first | refine L.want (k := ?_))
  refine L.callQ (sameT (can (lv a + lv b)) nS v11 v12) (hpre := fun _ hw => ⟨hK12.rd (List.mem_cons_of_mem _ List.mem_cons_self) hw, hK12.rd List.mem_cons_self hw⟩) (k := ?_)
  repeat (first | refine L.move (k := ?_) | refine L.pickT (k := ?_) | refine L.want (k := ?_))
  refine callN hK12 (mulN a b (lv a * lv b) na nb' rfl va vb) (hpre := fun _ hw => ⟨hK12.rd (List.mem_cons_of_mem _ (List.mem_cons_of_mem _ (List.mem_cons_of_mem _ (List.mem_cons_of_mem _ (List.mem_cons_of_mem _ (List.mem_cons_of_mem _ (List.mem_cons_of_mem _ (List.mem_cons_of_mem _ (List.mem_cons_of_mem _ (List.mem_cons_of_mem _ (List.mem_cons_of_mem _ (List.mem_cons_of_mem _ (List.mem_cons_of_mem _ (List.mem_cons_of_mem _ List.mem_cons_self)))))))))))))) hw, hK12.rd (List.mem_cons_of_mem _ (List.mem_cons_of_mem _ (List.mem_cons_of_mem _ (List.mem_cons_of_mem _ (List.mem_cons_of_mem _ (List.mem_cons_of_mem _ (List.mem_cons_of_mem _ (List.mem_cons_of_mem _ (List.mem_cons_of_mem _ (List.mem_cons_of_mem _ (List.mem_cons_of_mem _ (List.mem_cons_of_mem _ (List.mem_cons_of_mem _ (List.mem_cons_of_mem _ (List.mem_cons_of_mem _ List.mem_cons_self))))))))))))))) hw⟩) (k := fun v13 w13 hK13 => ?_)
  repeat (first | refine L.move (k := ?_) | refine L.want (k := ?_))
  refine callN hK13 (mul2_S a b (lv a * lv b) na nb' rfl va vb) (hpre := fun _ hw => ⟨hK13.rd (List.mem_cons_of_mem _ (List.mem_cons_of_mem _ (List.mem_cons_of_mem _ (List.mem_cons_of_mem _ (List.mem_cons_of_mem _ (List.mem_cons_of_mem _ (List.mem_cons_of_mem _ (List.mem_cons_of_mem _ (List.mem_cons_of_mem _ (List.mem_cons_of_mem _ (List.mem_cons_of_mem _ (List.mem_cons_of_mem _ (List.mem_cons_of_mem _ (List.mem_cons_of_mem _ (List.mem_cons_of_mem _ List.mem_cons_self))))))))))))))) hw, hK13.rd (List.mem_cons_of_mem _ (List.mem_cons_of_mem _ (List.mem_cons_of_mem _ (List.mem_cons_of_mem _ (List.mem_cons_of_mem _ (List.mem_cons_of_mem _ (List.mem_cons_of_mem _ (List.mem_cons_of_mem _ (List.mem_cons_of_mem _ (List.mem_cons_of_mem _ (List.mem_cons_of_mem _ (List.mem_cons_of_mem _ (List.mem_cons_of_mem _ (List.mem_cons_of_mem _ (List.mem_cons_of_mem _ (List.mem_cons_of_mem _ List.mem_cons_self)))))))))))))))) hw⟩) (k := fun v14 w14 hK14 => ?_)
  repeat (first | refine L.want (k := ?_))
  refine L.callQ (sameT (can (lv a * lv b)) nM v13 v14) (hpre := fun _ hw => ⟨hK14.rd (List.mem_cons_of_mem _ List.mem_cons_self) hw, hK14.rd List.mem_cons_self hw⟩) (k := ?_)
  repeat (first | refine L.move (k := ?_) | refine L.pickT (k := ?_) | refine L.want (k := ?_))
  refine L.callQ (bitsS a _ na rfl va) (hpre := fun _ hw => hK14.rd (List.mem_cons_of_mem _ (List.mem_cons_of_mem _ (List.mem_cons_of_mem _ (List.mem_cons_of_mem _ (List.mem_cons_of_mem _ (List.mem_cons_of_mem _ (List.mem_cons_of_mem _ (List.mem_cons_of_mem _ (List.mem_cons_of_mem _ (List.mem_cons_of_mem _ (List.mem_cons_of_mem _ (List.mem_cons_of_mem _ (List.mem_cons_of_mem _ (List.mem_cons_of_mem _ (List.mem_cons_of_mem _ (List.mem_cons_of_mem _ List.mem_cons_self)))))))))))))))) hw) (k := ?_)
  repeat (first | refine L.move (k := ?_) | refine L.want (k := ?_))
  refine L.callQ (bits2_S a _ na rfl va) (hpre := fun _ hw => hK14.rd (List.mem_cons_of_mem _ (List.mem_cons_of_mem _ (List.mem_cons_of_mem _ (List.mem_cons_of_mem _ (List.mem_cons_of_mem _ (List.mem_cons_of_mem _ (List.mem_cons_of_mem _ (List.mem_cons_of_mem _ (List.mem_cons_of_mem _ (List.mem_cons_of_mem _ (List.mem_cons_of_mem _ (List.mem_cons_of_mem _ (List.mem_cons_of_mem _ (List.mem_cons_of_mem _ (List.mem_cons_of_mem _ (List.mem_cons_of_mem _ List.mem_cons_self)))))))))))))))) hw) (k := ?_)
  repeat (first | refine L.move (k := ?_) | refine L.cm (c := ?_) | refine L.pickT (k := ?_) | refine L.want (k := ?_))
  refine L.callQ (bitT a i bt na hi hbt va) (hpre := fun _ hw => hK14.rd (List.mem_cons_of_mem _ (List.mem_cons_of_mem _ (List.mem_cons_of_mem _ (List.mem_cons_of_mem _ (List.mem_cons_of_mem _ (List.mem_cons_of_mem _ (List.mem_cons_of_mem _ (List.mem_cons_of_mem _ (List.mem_cons_of_mem _ (List.mem_cons_of_mem _ (List.mem_cons_of_mem _ (List.mem_cons_of_mem _ (List.mem_cons_of_mem _ (List.mem_cons_of_mem _ (List.mem_cons_of_mem _ (List.mem_cons_of_mem _ List.mem_cons_self)))))))))))))))) hw) (k := ?_)
  repeat (first | refine L.move (k := ?_) | refine L.want (k := ?_))
  refine L.callQ (bit2_S a i bt na hi hbt va) (hpre := fun _ hw => hK14.rd (List.mem_cons_of_mem _ (List.mem_cons_of_mem _ (List.mem_cons_of_mem _ (List.mem_cons_of_mem _ (List.mem_cons_of_mem _ (List.mem_cons_of_mem _ (List.mem_cons_of_mem _ (List.mem_cons_of_mem _ (List.mem_cons_of_mem _ (List.mem_cons_of_mem _ (List.mem_cons_of_mem _ (List.mem_cons_of_mem _ (List.mem_cons_of_mem _ (List.mem_cons_of_mem _ (List.mem_cons_of_mem _ (List.mem_cons_of_mem _ List.mem_cons_self)))))))))))))))) hw) (k := ?_)
  repeat (first | refine L.move (k := ?_) | refine L.pickT (k := ?_) | refine L.want (k := ?_) | refine L.eqB (c := ?_) | refine L.eqB (hz := g8) (c := ?_))
  refine callN hK14 (lowN a k lw na hL va) (hpre := fun _ hw => hK14.rd (List.mem_cons_of_mem _ (List.mem_cons_of_mem _ (List.mem_cons_of_mem _ (List.mem_cons_of_mem _ (List.mem_cons_of_mem _ (List.mem_cons_of_mem _ (List.mem_cons_of_mem _ (List.mem_cons_of_mem _ (List.mem_cons_of_mem _ (List.mem_cons_of_mem _ (List.mem_cons_of_mem _ (List.mem_cons_of_mem _ (List.mem_cons_of_mem _ (List.mem_cons_of_mem _ (List.mem_cons_of_mem _ (List.mem_cons_of_mem _ List.mem_cons_self)))))))))))))))) hw) (k := fun v15 w15 hK15 => ?_)
  repeat (first | refine L.move (k := ?_) | refine L.want (k := ?_))
  refine callN hK15 (low2_S a k lw na hL va) (hpre := fun _ hw => hK15.rd (List.mem_cons_of_mem _ (List.mem_cons_of_mem _ (List.mem_cons_of_mem _ (List.mem_cons_of_mem _ (List.mem_cons_of_mem _ (List.mem_cons_of_mem _ (List.mem_cons_of_mem _ (List.mem_cons_of_mem _ (List.mem_cons_of_mem _ (List.mem_cons_of_mem _ (List.mem_cons_of_mem _ (List.mem_cons_of_mem _ (List.mem_cons_of_mem _ (List.mem_cons_of_mem _ (List.mem_cons_of_mem _ (List.mem_cons_of_mem _ (List.mem_cons_of_mem _ List.mem_cons_self))))))))))))))))) hw) (k := fun v16 w16 hK16 => ?_)
  repeat (first | refine L.want (k := ?_))
  refine L.callQ (sameT (can lw) nL v15 v16) (hpre := fun _ hw => ⟨hK16.rd (List.mem_cons_of_mem _ List.mem_cons_self) hw, hK16.rd List.mem_cons_self hw⟩) (k := ?_)
  repeat (first | refine L.move (k := ?_) | refine L.pickT (k := ?_) | refine L.want (k := ?_))
  refine L.callQ (textS a _ na rfl va) (hpre := fun _ hw => hK16.rd (List.mem_cons_of_mem _ (List.mem_cons_of_mem _ (List.mem_cons_of_mem _ (List.mem_cons_of_mem _ (List.mem_cons_of_mem _ (List.mem_cons_of_mem _ (List.mem_cons_of_mem _ (List.mem_cons_of_mem _ (List.mem_cons_of_mem _ (List.mem_cons_of_mem _ (List.mem_cons_of_mem _ (List.mem_cons_of_mem _ (List.mem_cons_of_mem _ (List.mem_cons_of_mem _ (List.mem_cons_of_mem _ (List.mem_cons_of_mem _ (List.mem_cons_of_mem _ (List.mem_cons_of_mem _ List.mem_cons_self)))))))))))))))))) hw) (k := ?_)
  repeat (first | refine L.move (k := ?_) | refine L.want (k := ?_))
  refine L.callQ (text2_S a _ na rfl va) (hpre := fun _ hw => hK16.rd (List.mem_cons_of_mem _ (List.mem_cons_of_mem _ (List.mem_cons_of_mem _ (List.mem_cons_of_mem _ (List.mem_cons_of_mem _ (List.mem_cons_of_mem _ (List.mem_cons_of_mem _ (List.mem_cons_of_mem _ (List.mem_cons_of_mem _ (List.mem_cons_of_mem _ (List.mem_cons_of_mem _ (List.mem_cons_of_mem _ (List.mem_cons_of_mem _ (List.mem_cons_of_mem _ (List.mem_cons_of_mem _ (List.mem_cons_of_mem _ (List.mem_cons_of_mem _ (List.mem_cons_of_mem _ List.mem_cons_self)))))))))))))))))) hw) (k := ?_)
  repeat (first | refine L.strEq (hz := g7) (c := ?_) | refine L.nil ?_ | refine L.assign (k := ?_) | refine L.pickT (k := ?_) | refine L.want (k := ?_) | refine C.ret ?_ | refine D.seqR (h := ?_))
  (refine D.ret (vs := [_]) (RV.tmp rfl RV.nil) ?_; intro w' hw; exact Post.mk (is := []) (hK16.bk _ _ hw) List.nodup_nil rfl ⟨rfl, rfl⟩)
open Go.Lib in
theorem tabs_of {w : World} (hL : laidMetH Tryd.prog [("unicode/utf8.acceptRanges", Rows.laid_unicode_utf8_acceptRanges), ("unicode.CaseRanges", Rows.laid_unicode_CaseRanges), ("unicode/utf8.first", Rows.laid_unicode_utf8_first)] w) : Tabs w := by
  rw [MakeChecks.laidMetH_plain _ _ _ (by kernel_rfl)] at hL
  have h1 : VarReads Tryd.prog w "unicode.CaseRanges" caseData := Pinned.caseRanges_eq ▸ Lib.laidMet.reads hL (.tail _ (.head _))
  have h2 : VarReads Tryd.prog w "unicode/utf8.first" firstData := Pinned.utf8First_eq ▸ Lib.laidMet.reads hL (.tail _ (.tail _ (.head _)))
  have h3 : VarReads Tryd.prog w "unicode/utf8.acceptRanges" acceptData := Lib.laidMet.reads hL (.head _)
  exact ⟨caseVar_of_reads (ρ := Tryd.lowerLay_ren) { Tryd.lowerLay with } (by kernel_rfl) ⟨by kernel_rfl, by kernel_rfl, by kernel_rfl, by kernel_rfl, by kernel_rfl, by kernel_rfl⟩ h1,
    utf8Tabs_of_reads (ρ := Tryd.lowerLay_ren) { Tryd.lowerLay with } ⟨by kernel_rfl, by kernel_rfl, by kernel_rfl, by kernel_rfl, by kernel_rfl, by kernel_rfl, by kernel_rfl⟩ h2 h3⟩
theorem _root_.Go.Proofs.YtpemoeincepilaaDoor.natCalls_walk (va : Value) (a : List Nat) (vb : Value) (b : List Nat) (k : Int) (hk : (Lit.int .i64 k).wf = true) (i : Int) (hi : (Lit.int .i64 i).wf = true) (s : ByteArray) (w : World) (ha : Nats w va a) (hb : Nats w vb b) (hL : laidMetH Tryd.prog [("unicode/utf8.acceptRanges", Rows.laid_unicode_utf8_acceptRanges), ("unicode.CaseRanges", Rows.laid_unicode_CaseRanges), ("unicode/utf8.first", Rows.laid_unicode_utf8_first)] w) :
    Calls Tryd.prog 9 #[va, vb, .int .i64 k, .int .i64 i, .string s] w fun e w' => e = .returned (.bool true) ∧ Below w.heap.size w w' :=
  (calls_S a b ha.1 hb.1 ha.2.1 hb.2.1 va vb k i (int_of_wf hk) (int_of_wf hi) s).true w ⟨⟨ha.2.2, hb.2.2⟩, tabs_of hL⟩
end Go.Proofs.YtpemoeincepilaaDoor.Nt
