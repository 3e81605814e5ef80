/- nat: Add, Sub: what they answer, told by numbers. Conditions: at most 900000 limbs. -/
import Derived.Test.YtpemoeincepilaaDoorNtD
set_option linter.unusedVariables false
set_option linter.unusedSimpArgs false
namespace Go.Proofs.YtpemoeincepilaaDoor.Nt
open Go Go.RowKit SL
attribute [local irreducible] SL.L SL.C SL.D SL.N SL.H SL.QL SL.QW SL.QP

def addI (a b : List Nat) (i : Nat) (o : List Nat) (c : Bool) : Prop := o.length = i ∧ okL o ∧ lv o + 18446744073709551616 ^ i * c.toNat = lo a i + lo b i
set_option maxRecDepth 100000 in
set_option maxHeartbeats 4000000 in
theorem add_S (a b : List Nat) (oa : okL a) (ob' : okL b) (hla : a.length ≤ 900000) (hlb : b.length ≤ 900000) (va vb : Value) : Ctr Tryd.prog 24 [va, vb] [] (fun w => RdN w [] va a ∧ RdN w [] vb b) (natR (lv a + lv b)) := by
  refine Ctr.enterM Tryd.func24 Tryd.ntmps24 rfl rfl (fun w hr => ?_)
  obtain ⟨ra, rb⟩ := hr
  have sa := ra.1
  have sb := rb.1
  have hmx := max_if a.length b.length
  have hP := pairs_S va vb _ _ (max a.length b.length + 1) sa sb
  have cm1 : ar .add .i64 ((max a.length b.length : Nat) : Int) 1 = ((max a.length b.length + 1 : Nat) : Int) := i64_add (b := 1) (by omega)
  repeat (first | refine C.seq ?_ | refine C.region ?_ | refine L.nil ?_ | refine D.seq ?_ | refine L.move (k := ?_) | refine L.assign (k := ?_) | refine L.ar (c := ?_) | refine L.storeV 0 (c := ?_) | refine L.alloc (c := fun _ => ?_) | refine C.block ?_ | refine D.seqR (h := ?_) | refine L.lenR sa (c := ?_) | refine L.lenR sb (c := ?_) | refine L.maxI (hz := hmx) (c := ?_) | (refine L.callP [] hP (by exact rfl) (by exact rfl) (by exact rfl) (by decide) (fun _ _ => trivial) ?_; rintro u B ⟨ba, bb, bn, bf, rfl, rfl⟩; rw [hdrop_nil]; simp only [List.cons_append, List.nil_append]))
  rename_i b5 b6
  refine C.rangeO (α := Nat) (β := OS × List Nat × Bool) (by exact rfl) (by exact rfl) (encP a b) [4, 5] (by exact rfl) (by decide) (V := fun pre x => x = pre.length ∧ x < max a.length b.length + 1) (S := fun xs => xs.length = max a.length b.length + 1) (Sp := fun pre => pre.length ≤ max a.length b.length + 1)
    (fun w' hw' => by
      obtain ⟨s1, s2, s3, s4, s5⟩ := six (X := [_, _, _, _]) hw'
      exact pairs2_seq a b (by omega) (by omega) _ (by omega) va vb w' ba bb bn bf s1 s2 _ (ra.base hw' _ (fun _ h => h)) (rb.base hw' _ (fun _ h => h)) _ s3 s4 s5)
    (fun _ => rfl) (by exact rfl) (fun pre y => osG 1 y.2.1.length (u64s y.2.1) y.1 ∧ addI a b pre.length y.2.1 y.2.2) (fun pre y => (b6, ob [.bool y.2.2] 4) :: (b5, ob [osV y.2.1.length y.1] 23) :: osC 34 y.1 [])
    (fun _ _ _ => False) (fun _ _ _ => []) (fun pre y => by obtain ⟨_ | ⟨_, _, _⟩, _, _⟩ := y <;> rfl) (fun _ _ _ => rfl) (none, [], false) ⟨osG.nil, rfl, (fun _ h => by cases h), by simp [lv, lo_zero]⟩ (by exact rfl) ?_ ?_ ?_
  · rintro lb w1 W rec pre x ⟨y, o, c⟩ hw1 hA ⟨hG, hol, hok, hi⟩ ⟨rfl, hx⟩ _
    simp only at hG hol hok hi
    obtain ⟨s, c', he, hs1, hs2⟩ := addM_eq (lmb_lt oa pre.length) (lmb_lt ob' pre.length) c
    have hW := wadd_S (lmb a pre.length : Int) (lmb b pre.length : Int) c
    rw [he] at hW
    have hm1 : o.length + 1 ≤ maxLen := by unfold maxLen; omega
    refine C.perm (M' := (lb, .loop rec) :: (b6, ob [.bool c] 4) :: (b5, ob [osV o.length y] 23) :: osC 34 y []) ((List.perm_append_singleton _ _).symm) ?_
    simp only [pe, encP, List.cons_append, List.nil_append]
    repeat (first | refine C.seq ?_ | refine C.region ?_ | refine L.nil ?_ | refine D.seq ?_ | refine L.move (k := ?_) | refine L.assign (k := ?_) | refine L.load1 1 (c := ?_) | refine L.load1 2 (c := ?_) | refine L.storeV 1 (c := ?_) | refine L.extract (c := ?_) | refine C.block ?_ | refine L.buildS (c := fun _ => ?_) | refine D.begin 0 (by exact rfl) (by simp only [hset]; rfl) (by exact rfl) ?_ | (refine L.callP [] hW (by exact rfl) (by exact rfl) (by exact rfl) (by decide) (fun _ _ => trivial) ?_; rintro u B ⟨rfl, rfl⟩; rw [hdrop_nil, List.nil_append]))
    rename_i nb
    refine L.appendU [_, _, _, _] (L2 := []) (y := y) (m := o.length) (u := .slice (some ⟨nb, 0, none⟩) 1 1) (k := 1) (news := [.int .u64 (s : Int)]) hG rfl (fun w hw => Rd.own (hw.holds _ List.mem_cons_self) (by simp) (Nat.le_refl _) 1 rfl) rfl (u64s_ones [s]) hm1 (by omega) (c := fun y' hG' _ => ?_)
    simp only [List.cons_append, List.nil_append]
    repeat (first | refine L.storeV 0 (hc := osV_cells _ _) (ho := osV_one _ _) (c := ?_) | refine L.storeV 1 (hc := osV_cells _ _) (ho := osV_one _ _) (c := ?_) | refine L.storeV 2 (hc := osV_cells _ _) (ho := osV_one _ _) (c := ?_) | refine L.storeV 3 (hc := osV_cells _ _) (ho := osV_one _ _) (c := ?_) | refine L.storeV 4 (hc := osV_cells _ _) (ho := osV_one _ _) (c := ?_) | refine L.storeV 5 (hc := osV_cells _ _) (ho := osV_one _ _) (c := ?_) | refine L.storeV 6 (hc := osV_cells _ _) (ho := osV_one _ _) (c := ?_) | refine L.storeV 7 (hc := osV_cells _ _) (ho := osV_one _ _) (c := ?_) | refine L.nil ?_ | refine D.blkNormal ?_)
    have hG2 : osG 1 (o ++ [s]).length (u64s (o ++ [s])) y' := by rw [u64s_app, List.length_append]; exact hG'
    have hI2 : addI a b (pre ++ [pre.length]).length (o ++ [s]) c' := by
      rw [List.length_append]
      refine ⟨by rw [List.length_append, hol]; rfl, okL_app hok (fun z hz => by rw [List.mem_singleton.1 hz]; exact hs1), ?_⟩
      exact add_step hol hi hs2
    rcases y' with _ | ⟨p1, q1, s1⟩
    · have := hG'.1; omega
    refine D.next (some (p1, q1, s1), o ++ [s], c') [2, 3, 4, 1] ⟨hG2, hI2⟩ (by decide) ?_
    simp only [List.length_append]; rfl
  · rintro Db xs ⟨y, o, c⟩ hS ⟨hG, hol, hok, hi⟩
    have hS' : xs.length = max a.length b.length + 1 := hS
    simp only at hG hol hok hi
    rw [hS'] at hol hi
    have hv := add_end oa ob' hol hi (by omega)
    have hT := trim_S o hok (by omega) (osV o.length y)
    rw [hv] at hT
    rcases y with _ | y1
    · have := hG.1; omega
    obtain ⟨yb, yl, yc⟩ := y1
    simp only [hdrop, List.cons_append, List.nil_append, osC]
    repeat (first | refine C.seq ?_ | refine C.region ?_ | refine L.load1 2 (c := ?_) | refine D.blkNormal ?_ | refine D.seqR (h := ?_))
    refine L.callP [] hT (by exact rfl) (by exact rfl) (by exact rfl) (by decide) (fun w hw => hG.rdm (T := 34) hw (by simp [osC])) ?_
    rintro u B ⟨y2, hG2, rfl, rfl⟩
    rw [hdrop_nil]
    rcases y2 with _ | ⟨p1, q1, s1⟩
    · simp only [osC, List.nil_append]
      repeat (first | refine L.nil ?_ | refine L.assign (k := ?_) | refine C.ret ?_ | refine D.seqR (h := ?_))
      exact D.retM (vs := [osV _ none]) [Db] [0] (by exact rfl) (by decide) (by exact rfl) (RV.tmp rfl RV.nil) (fun w' hw => Post.mk (is := []) hw (by decide) rfl ⟨none, hG2, rfl, rfl⟩)
    · simp only [osC, List.nil_append, List.cons_append]
      repeat (first | refine L.nil ?_ | refine L.assign (k := ?_) | refine C.ret ?_ | refine D.seqR (h := ?_))
      exact D.retM (vs := [osV _ (some (p1, q1, s1))]) [Db] [1] (by exact rfl) (by decide) (by exact rfl) (RV.tmp rfl RV.nil) (fun w' hw => Post.mk (is := [0]) hw (by decide) rfl ⟨some (p1, q1, s1), hG2, rfl, rfl⟩)
  · intro Db c pre y _ h; exact h.elim
def subI (a b : List Nat) (i : Nat) (o : List Nat) (c : Bool) : Prop := o.length = i ∧ okL o ∧ lv o + lo b i = lo a i + 18446744073709551616 ^ i * c.toNat
set_option maxRecDepth 100000 in
set_option maxHeartbeats 4000000 in
theorem sub_S (a b : List Nat) (oa : okL a) (ob' : okL b) (hla : a.length ≤ 900000) (hlb : b.length ≤ 900000) (va vb : Value) : Ctr Tryd.prog 26 [va, vb] [] (fun w => RdN w [] va a ∧ RdN w [] vb b) (natE (lv a - lv b) (if lv a < lv b then 2 else 0)) := by
  refine Ctr.enterM Tryd.func26 Tryd.ntmps26 rfl rfl (fun w hr => ?_)
  obtain ⟨ra, rb⟩ := hr
  have sa := ra.1
  have sb := rb.1
  have hmx := max_if a.length b.length
  have hP := pairs_S va vb _ _ (max a.length b.length) sa sb
  repeat (first | refine C.seq ?_ | refine C.region ?_ | refine L.nil ?_ | refine D.seq ?_ | refine L.move (k := ?_) | refine L.assign (k := ?_) | refine L.storeV 0 (c := ?_) | refine L.alloc (c := fun _ => ?_) | refine C.block ?_ | refine D.seqR (h := ?_) | refine L.lenR sa (c := ?_) | refine L.lenR sb (c := ?_) | refine L.maxI (hz := hmx) (c := ?_) | (refine L.callP [] hP (by exact rfl) (by exact rfl) (by exact rfl) (by decide) (fun _ _ => trivial) ?_; rintro u B ⟨ba, bb, bn, bf, rfl, rfl⟩; rw [hdrop_nil]; simp only [List.cons_append, List.nil_append]))
  rename_i b5 b6
  refine C.rangeO (α := Nat) (β := OS × List Nat × Bool) (by exact rfl) (by exact rfl) (encP a b) [4, 5] (by exact rfl) (by decide) (V := fun pre x => x = pre.length ∧ x < max a.length b.length) (S := fun xs => xs.length = max a.length b.length) (Sp := fun pre => pre.length ≤ max a.length b.length)
    (fun w' hw' => by
      obtain ⟨s1, s2, s3, s4, s5⟩ := six (X := [_, _, _, _]) hw'
      exact pairs2_seq a b (by omega) (by omega) _ (by omega) va vb w' ba bb bn bf s1 s2 _ (ra.base hw' _ (fun _ h => h)) (rb.base hw' _ (fun _ h => h)) _ s3 s4 s5)
    (fun _ => rfl) (by exact rfl) (fun pre y => osG 1 y.2.1.length (u64s y.2.1) y.1 ∧ subI a b pre.length y.2.1 y.2.2) (fun pre y => (b6, ob [.bool y.2.2] 4) :: (b5, ob [osV y.2.1.length y.1] 23) :: osC 34 y.1 [])
    (fun _ _ _ => False) (fun _ _ _ => []) (fun pre y => by obtain ⟨_ | ⟨_, _, _⟩, _, _⟩ := y <;> rfl) (fun _ _ _ => rfl) (none, [], false) ⟨osG.nil, rfl, (fun _ h => by cases h), by simp [lv, lo_zero]⟩ (by exact rfl) ?_ ?_ ?_
  · rintro lb w1 W rec pre x ⟨y, o, c⟩ hw1 hA ⟨hG, hol, hok, hi⟩ ⟨rfl, hx⟩ _
    simp only at hG hol hok hi
    obtain ⟨s, c', he, hs1, hs2⟩ := subM_eq (lmb_lt oa pre.length) (lmb_lt ob' pre.length) c
    have hW := wsub_S (lmb a pre.length : Int) (lmb b pre.length : Int) c
    rw [he] at hW
    have hm1 : o.length + 1 ≤ maxLen := by unfold maxLen; omega
    refine C.perm (M' := (lb, .loop rec) :: (b6, ob [.bool c] 4) :: (b5, ob [osV o.length y] 23) :: osC 34 y []) ((List.perm_append_singleton _ _).symm) ?_
    simp only [pe, encP, List.cons_append, List.nil_append]
    repeat (first | refine C.seq ?_ | refine C.region ?_ | refine L.nil ?_ | refine D.seq ?_ | refine L.move (k := ?_) | refine L.assign (k := ?_) | refine L.load1 1 (c := ?_) | refine L.load1 2 (c := ?_) | refine L.storeV 1 (c := ?_) | refine L.extract (c := ?_) | refine C.block ?_ | refine L.buildS (c := fun _ => ?_) | refine D.begin 0 (by exact rfl) (by simp only [hset]; rfl) (by exact rfl) ?_ | (refine L.callP [] hW (by exact rfl) (by exact rfl) (by exact rfl) (by decide) (fun _ _ => trivial) ?_; rintro u B ⟨rfl, rfl⟩; rw [hdrop_nil, List.nil_append]))
    rename_i nb
    refine L.appendU [_, _, _, _] (L2 := []) (y := y) (m := o.length) (u := .slice (some ⟨nb, 0, none⟩) 1 1) (k := 1) (news := [.int .u64 (s : Int)]) hG rfl (fun w hw => Rd.own (hw.holds _ List.mem_cons_self) (by simp) (Nat.le_refl _) 1 rfl) rfl (u64s_ones [s]) hm1 (by omega) (c := fun y' hG' _ => ?_)
    simp only [List.cons_append, List.nil_append]
    repeat (first | refine L.storeV 0 (hc := osV_cells _ _) (ho := osV_one _ _) (c := ?_) | refine L.storeV 1 (hc := osV_cells _ _) (ho := osV_one _ _) (c := ?_) | refine L.storeV 2 (hc := osV_cells _ _) (ho := osV_one _ _) (c := ?_) | refine L.storeV 3 (hc := osV_cells _ _) (ho := osV_one _ _) (c := ?_) | refine L.storeV 4 (hc := osV_cells _ _) (ho := osV_one _ _) (c := ?_) | refine L.storeV 5 (hc := osV_cells _ _) (ho := osV_one _ _) (c := ?_) | refine L.storeV 6 (hc := osV_cells _ _) (ho := osV_one _ _) (c := ?_) | refine L.storeV 7 (hc := osV_cells _ _) (ho := osV_one _ _) (c := ?_) | refine L.nil ?_ | refine D.blkNormal ?_)
    have hG2 : osG 1 (o ++ [s]).length (u64s (o ++ [s])) y' := by rw [u64s_app, List.length_append]; exact hG'
    have hI2 : subI a b (pre ++ [pre.length]).length (o ++ [s]) c' := by
      rw [List.length_append]
      refine ⟨by rw [List.length_append, hol]; rfl, okL_app hok (fun z hz => by rw [List.mem_singleton.1 hz]; exact hs1), ?_⟩
      exact sub_step hol hi hs2
    rcases y' with _ | ⟨p1, q1, s1⟩
    · have := hG'.1; omega
    refine D.next (some (p1, q1, s1), o ++ [s], c') [2, 3, 4, 1] ⟨hG2, hI2⟩ (by decide) ?_
    simp only [List.length_append]; rfl
  · rintro Db xs ⟨y, o, c⟩ hS ⟨hG, hol, hok, hi⟩
    have hS' : xs.length = max a.length b.length := hS
    simp only at hG hol hok hi
    rw [hS'] at hol hi
    have hv := sub_end hok hol hi (by omega) (by cases c <;> simp) oa
    cases c with
    | true =>
      have hlt := hv.1.1 rfl
      rw [if_pos hlt, show lv a - lv b = 0 by omega]
      have hc0 : (can 0).length = 0 := by rw [can_zero]; rfl
      rcases y with _ | ⟨yb, yl, yc⟩
      all_goals
        simp only [hdrop, List.cons_append, List.nil_append, osC]
        repeat (first | refine C.seq ?_ | refine C.region ?_ | refine L.nil ?_ | refine D.seq ?_ | refine L.assign (k := ?_) | refine L.load1 1 (c := ?_) | refine C.yes (h1 := ?_) | refine D.blkNormal ?_ | refine C.ret ?_ | refine D.thenRet ?_ | refine D.seqR (h := ?_))
        exact D.retM (vs := [osV 0 none, .int .i64 2]) [Db] [0] (by exact rfl) (by decide) (by exact rfl) (RV.tmp rfl (RV.tmp rfl RV.nil)) (fun w' hw => Post.mk (is := []) hw (by decide) rfl ⟨none, by rw [can_zero]; exact osG.nil, by rw [hc0], rfl⟩)
    | false =>
      have hge : ¬ lv a < lv b := fun h => by have := hv.1.2 h; cases this
      rw [if_neg hge]
      have hT := trim_S o hok (by omega) (osV o.length y)
      rw [hv.2 rfl] at hT
      rcases y with _ | ⟨yb, yl, yc⟩
      all_goals
        simp only [hdrop, List.cons_append, List.nil_append, osC]
        repeat (first | refine C.seq ?_ | refine C.region ?_ | refine L.nil ?_ | refine D.seq ?_ | refine L.load1 1 (c := ?_) | refine L.load1 2 (c := ?_) | refine C.no (h1 := ?_) | refine D.blkNormal ?_ | refine C.skip ?_ | refine D.seqR (h := ?_))
        refine L.callP [] hT (by exact rfl) (by exact rfl) (by exact rfl) (by decide) (fun w hw => hG.rdm (T := 34) hw (by simp [osC])) ?_
        rintro u B ⟨y2, hG2, rfl, rfl⟩
        rw [hdrop_nil]
        rcases y2 with _ | ⟨p1, q1, s1⟩
      all_goals
        simp only [osC, List.nil_append, List.cons_append]
        repeat (first | refine L.nil ?_ | refine L.assign (k := ?_) | refine C.ret ?_ | refine D.seqR (h := ?_))
        first
          | exact D.retM (vs := [osV _ none, .int .i64 0]) [Db] [0] (by exact rfl) (by decide) (by exact rfl) (RV.tmp rfl (RV.tmp rfl RV.nil)) (fun w' hw => Post.mk (is := []) hw (by decide) rfl ⟨none, hG2, rfl, rfl⟩)
          | exact D.retM (vs := [osV _ (some (p1, q1, s1)), .int .i64 0]) [Db] [1] (by exact rfl) (by decide) (by exact rfl) (RV.tmp rfl (RV.tmp rfl RV.nil)) (fun w' hw => Post.mk (is := [0]) hw (by decide) rfl ⟨some (p1, q1, s1), hG2, rfl, rfl⟩)
  · intro Db c pre y _ h; exact h.elim
end Go.Proofs.YtpemoeincepilaaDoor.Nt
