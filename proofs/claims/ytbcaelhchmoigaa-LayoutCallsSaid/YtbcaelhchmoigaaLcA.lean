import Derived.Test.YtbcaelhchmoigaaLcP
import Derived.Test.YtbcaelhchmoigaaLjA
import Derived.Test.YtbcaelhchmoigaaDC
set_option maxHeartbeats 8000000
set_option maxRecDepth 100000
set_option linter.unusedVariables false
set_option linter.unusedSimpArgs false
namespace Go.Proofs.Ytbcaelhchmoigaa.Ly
open Go Go.RowKit Calm SL
attribute [local irreducible] SL.L SL.C SL.D SL.N SL.H SL.QL SL.QW SL.QP
theorem cnt_take {l : List Ln} {i : Nat} {x : Ln} (h : l[i]? = some x) (n : Int) : cnt (l.take (i + 1)) n = cnt (l.take i) n + if n = x.lab then 1 else 0 := by rw [take_succ_eq h, cnt_app, cnt_one]
theorem cnt_take_le (l : List Ln) (n : Int) {i k : Nat} (h : i ≤ k) : cnt (l.take i) n ≤ cnt (l.take k) n := by
  have e : l.take k = l.take i ++ (l.take k).drop i := by
    have := List.take_append_drop i (l.take k)
    rw [List.take_take, Nat.min_eq_left h] at this
    exact this.symm
  rw [e, cnt_app]; omega
theorem lab_at {l : List Ln} {i : Nat} {x : Ln} (h : l[i]? = some x) : (l.flatMap Ln.vs)[i * 11 + 0]? = some (.int .i64 x.lab) := flat_get vs_len _ i x h 0 (by decide)
theorem rlabel_S (l : List Ln) (hl : l.length ≤ 1000) (v : Value) (n : Int) (k : Nat) (hk : k ≤ l.length) : Ctr Try.prog 55 [v, .int .i64 n, .int .i64 (k : Int)] [] (fun w => Rd w [] v l.length (l.flatMap Ln.vs)) (is (.bool (decide (0 < cnt (l.take k) n))) []) := by
  refine Ctr.enter Try.func55 Try.ntmps55 rfl rfl (fun w hr => ?_)
  have sv := hr.1
  repeat (first | refine Af ?_ | refine Ac ?_ | refine Aa ?_ | refine Ae ?_ | refine Ag ?_ | refine Ai ?_)
  refine C.loop (α := Nat) (fun i => i ≤ k ∧ cnt (l.take i) n = 0) (fun i => [(0, v), (1, .int .i64 n), (2, .int .i64 (k : Int)), (7, .int .i64 (i : Int))]) (fun _ => []) (fun i => k - i) 0 (fun a w hs => hs.lessE rfl (lk_cons rfl (lk_cons rfl (lk_cons rfl (lk_cons rfl (fun _ _ h => lk_nil h)))))) ⟨Nat.zero_le _, rfl⟩ ?_
  rintro i ⟨hi, h0⟩
  rcases Nat.lt_or_ge i k with hlt | hge
  · have c1 : cm .lss (i : Int) k = true := cm_lo (by omega)
    have c2 : ar .add .i64 (i : Int) 1 = ((i + 1 : Nat) : Int) := wrap_nat (by omega)
    have hil : i < l.length := by omega
    obtain ⟨x, hx⟩ : ∃ x, l[i]? = some x := ⟨_, List.getElem?_eq_getElem hil⟩
    have k0 := lab_at hx
    have oL := hr.2 (by omega)
    have ht := cnt_take hx n
    by_cases he : x.lab = n
    · have c3 : cm .eql x.lab n = true := cm_yes he
      have hd : decide (0 < cnt (l.take k) n) = true := by
        have := cnt_take_le l n (i := i + 1) (k := k) (by omega)
        rw [if_pos he.symm] at ht
        simp; omega
      rw [hd]
      repeat (first | refine Af ?_ | refine Ac ?_ | refine Aa ?_ | refine Ae ?_ | refine Ad ?_ | refine Ag ?_ | refine Ah ?_ | refine Ay ?_ | refine Am ?_ | refine Ai ?_ | refine An ?_ | refine Av ?_ | refine Bb ?_ | refine Ap ?_ | refine Ba sv hil ?_ | refine L.loadF oL k0 (c := ?_))
      (refine D.ret (vs := [_]) (RV.tmp rfl RV.nil) ?_; intro w' hw; exact Post.mk (is := []) hw List.nodup_nil rfl ⟨rfl, rfl⟩)
    · have c3 : cm .eql x.lab n = false := cm_no he
      repeat (first | refine Af ?_ | refine Ac ?_ | refine Aa ?_ | refine Ae ?_ | refine Ad ?_ | refine Ag ?_ | refine Ah ?_ | refine Ao ?_ | refine Ay ?_ | refine Am ?_ | refine Aj ?_ | refine Ai ?_ | refine Ar ?_ | refine Ap ?_ | refine Ba sv hil ?_ | refine L.loadF oL k0 (c := ?_))
      exact D.then_ fun a1 w1 hs => ⟨i + 1, ⟨hlt, by rw [ht, h0, if_neg (fun h => he h.symm)]⟩, by show k - (i + 1) < k - i; omega, hs.lessE rfl (lk_cons rfl (lk_cons rfl (lk_cons rfl (lk_cons rfl (fun _ _ h => lk_nil h)))))⟩
  · have c1 : cm .lss (i : Int) k = false := cm_lo' (by omega)
    have : i = k := by omega
    subst this
    rw [h0]
    repeat (first | refine Af ?_ | refine Ac ?_ | refine Aa ?_ | refine Ae ?_ | refine Ad ?_ | refine Ag ?_ | refine Ah ?_ | refine Aj ?_ | refine An ?_ | refine C.exit ?_ | refine Bg ?_ | refine Bh ?_)
    (refine D.ret (vs := [_]) (RV.tmp rfl RV.nil) ?_; intro w' hw; exact Post.mk (is := []) hw List.nodup_nil rfl ⟨rfl, rfl⟩)
theorem cm_pos {a : Nat} {b : Bool} (h : cm .gtr ((a : Nat) : Int) 0 = b) : decide (0 < a) = b := by
  by_cases h0 : 0 < a
  · rw [cm_gt (by omega)] at h; rw [← h]; simpa using h0
  · rw [cm_gt' (by omega)] at h; rw [← h]; simpa using h0
theorem cm_zero {a : Nat} {b : Bool} (h : cm .eql ((a : Nat) : Int) 0 = b) : decide (0 < a) = !b := by
  by_cases h0 : 0 < a
  · rw [cm_no (by omega)] at h; rw [← h]; simpa using h0
  · rw [cm_yes (by omega)] at h; rw [← h]; simpa using h0
theorem rline_S (l : List Ln) (hl : l.length ≤ 1000) (v : Value) (i : Nat) (x : Ln) (hx : l[i]? = some x) : Ctr Try.prog 38 [v, .int .i64 (i : Int)] [] (fun w => Rd w [] v l.length (l.flatMap Ln.vs)) (is (.int .i64 (lineE (cnt (l.take i) x.lab) (cnt l x.to) x)) []) := by
  have hil := (List.getElem?_eq_some_iff.1 hx).1
  have hC : Ctr Try.prog 32 [insV x.ins] [] tt (is (.int .i64 (errOf x.ins.chk)) []) := spec_b (fun w => rcheck_any x.ins.op x.ins.d x.ins.s x.ins.t x.ins.mb x.ins.mi x.ins.ms x.ins.md x.ins.imm w)
  have hJ := rjump_S x.ins
  have hA := rlabel_S l hl v x.lab i (by omega)
  have hB := rlabel_S l hl v x.to l.length (Nat.le_refl _)
  rw [List.take_of_length_le (Nat.le_refl _)] at hB
  obtain ⟨kc, kl⟩ := ln_at hx
  refine Ctr.enter Try.func38 Try.ntmps38 rfl rfl (fun w hr => ?_)
  have sv := hr.1
  have oL := hr.2 (by omega)
  unfold insV at hC hJ
  rcases line_cases x (cnt (l.take i) x.lab) (cnt l x.to) (fun _ => (cnt (l.take i) x.lab : Int)) (fun _ => (cnt l x.to : Int)) (fun _ => rfl) (fun _ => rfl) with ⟨he, c1⟩ | ⟨⟨c1, c2⟩, ⟨he, hz⟩ | ⟨he, hz, c3⟩ | ⟨he, hz, c3, c4⟩ | ⟨he, hz, c3, c4⟩⟩ | ⟨⟨c1, c2⟩, ⟨he, c3⟩ | ⟨c3, ⟨hj, ⟨he, c4⟩ | ⟨c4, ⟨he, c5⟩ | ⟨he, c5, c6⟩ | ⟨he, c5, c6⟩⟩⟩ | ⟨hj, ⟨he, c4⟩ | ⟨he, c4⟩⟩⟩⟩
  all_goals rw [he]
  all_goals try rw [hj] at hJ
  all_goals try rw [cm_pos c4] at hA
  all_goals try rw [cm_zero c6] at hB
  all_goals first
    | (have c0 : cm .neq x.lab 0 = true := cm_ne (by intro h0; rw [h0] at c1; exact absurd c1 (by decide)))
    | (have c0 : cm .neq x.lab 0 = true := cm_ne (by intro h0; rw [h0] at c2; exact absurd c2 (by decide)))
    | (have c0 : cm .neq x.lab 0 = false := cm_ne' (by
        rcases Int.lt_trichotomy x.lab 0 with h | h | h
        · rw [cm_lo h] at c1; cases c1
        · exact h
        · rw [cm_gt h] at c2; cases c2))
  all_goals repeat (first | refine L.neA (b := true) (he := by exact congrArg some hz) (c := ?_) | refine L.neA (b := false) (he := by exact congrArg some hz) (c := ?_) | refine Af ?_ | refine Ac ?_ | refine Aa ?_ | refine Ae ?_ | refine Ad ?_ | refine Ag ?_ | refine Ah ?_ | refine Ay ?_ | refine Ak 0 ?_ | refine Al 0 ?_ | refine Ab 0 ?_ | refine As ?_ | refine Aq (fun _ => ?_) | refine Am ?_ | refine Aj ?_ | refine Be ?_ | refine Ax ?_ | refine Aw ?_ | refine Bf ?_ | refine L.not (c := ?_) | refine An ?_ | refine Av ?_ | refine Ap ?_ | refine L.passU (k := ?_) | refine Au (hC) ?_ | refine Au (hJ) ?_ | refine Az sv ?_ | refine Ba sv hil ?_ | refine L.loadOA oL (i := i * 11) (ho := by exact rfl) (hi := kl) (hcs := kc) (c := ?_) | refine L.callQ hA (hpre := fun w hw => hr.at hw) (k := ?_) | refine L.callQ hB (hpre := fun w hw => hr.at hw) (k := ?_))
  all_goals (refine D.ret (vs := [_]) (RV.tmp rfl RV.nil) ?_; intro w' hw; exact Post.mkD 1 hw rfl ⟨rfl, rfl⟩)
theorem rcheck_S (l : List Ln) (hl : l.length ≤ 1000) (hok : ∀ x ∈ l, x.ok) (v : Value) : Ctr Try.prog 21 [v] [] (fun w => Rd w [] v l.length (l.flatMap Ln.vs)) (is (.tuple #[.int .i64 (lcheck l).1, .int .i64 (lcheck l).2]) []) := by
  refine Ctr.enter Try.func21 Try.ntmps21 rfl rfl (fun w hr => ?_)
  have sv := hr.1
  have htl := total_le l
  repeat (first | refine Af ?_ | refine Ac ?_ | refine Aa ?_ | refine Ae ?_ | refine Ag ?_ | refine Ai ?_)
  refine C.loop (α := Nat) (fun i => i ≤ l.length ∧ firstE l [] l = firstE l (l.take i) (l.drop i)) (fun i => [(0, v), (4, .int .i64 (total (l.take i) : Int)), (5, .int .i64 (i : Int))]) (fun _ => []) (fun i => l.length - i) 0 (fun a w hs => hs.lessE rfl (lk_cons rfl (lk_cons rfl (lk_cons rfl (fun _ _ h => lk_nil h))))) ⟨Nat.zero_le _, rfl⟩ ?_
  rintro i ⟨hi, hfe⟩
  rcases Nat.lt_or_ge i l.length with hlt | hge
  · have c1 : cm .lss (i : Int) l.length = true := cm_lo (by omega)
    have c2 : ar .add .i64 (i : Int) 1 = ((i + 1 : Nat) : Int) := wrap_nat (by omega)
    obtain ⟨x, hx⟩ : ∃ x, l[i]? = some x := ⟨_, List.getElem?_eq_getElem hlt⟩
    have k0 := lab_at hx
    obtain ⟨_, kc, kl⟩ := ln_cell hx
    have oL := hr.2 (by omega)
    have hln := rline_S l hl v i x hx
    have hS := rsize_S x.ins (hok x (List.mem_of_getElem? hx)).2.1
    have htk := take_succ_total hx
    have htt : total (l.take (i + 1)) ≤ total l := by
      conv => rhs; rw [← List.take_append_drop (i + 1) l]
      rw [total_app]; omega
    rw [drop_eq hx, firstE_step] at hfe
    generalize lineE (cnt (l.take i) x.lab) (cnt l x.to) x = e at hln hfe
    by_cases he : e = 0
    · have c3 : cm .neq e 0 = false := cm_ne' he
      rw [if_pos he] at hfe
      by_cases hz : x.lab = 0
      · have hsz : x.size = x.ins.out.size := if_pos hz
        have c4 : cm .eql x.lab 0 = true := cm_yes hz
        have c5 : ar .add .i64 (total (l.take i) : Int) x.ins.out.size = ((total (l.take (i + 1)) : Nat) : Int) := by rw [htk, hsz]; exact wrap_nat (by omega)
        repeat (first | refine Af ?_ | refine Ac ?_ | refine Aa ?_ | refine Ae ?_ | refine Ad ?_ | refine Ag ?_ | refine Ah ?_ | refine Ao ?_ | refine Ay ?_ | refine Am ?_ | refine Aj ?_ | refine Ai ?_ | refine Ar ?_ | refine Ap ?_ | refine Az sv ?_ | refine Ba sv hlt ?_ | refine L.loadF oL k0 (c := ?_) | refine L.loadOA oL (i := i * 11 + 1) (ho := by exact rfl) (hi := kl) (hcs := kc) (c := ?_) | refine L.callQ hln (hpre := fun w hw => hr.at hw) (k := ?_) | refine Au (hS) ?_)
        exact D.then_ fun a1 w1 hs => ⟨i + 1, ⟨hlt, by rw [take_succ_eq hx]; exact hfe⟩, by show l.length - (i + 1) < l.length - i; omega, hs.lessE rfl (lk_cons rfl (lk_cons rfl (lk_cons rfl (fun _ _ h => lk_nil h))))⟩
      · have hsz : x.size = 0 := if_neg hz
        have c4 : cm .eql x.lab 0 = false := cm_no hz
        have e5 : total (l.take i) = total (l.take (i + 1)) := by rw [htk, hsz, Nat.add_zero]
        repeat (first | refine Af ?_ | refine Ac ?_ | refine Aa ?_ | refine Ae ?_ | refine Ad ?_ | refine Ag ?_ | refine Ah ?_ | refine Ao ?_ | refine Ay ?_ | refine Am ?_ | refine Aj ?_ | refine Ai ?_ | refine Ar ?_ | refine Ap ?_ | refine Az sv ?_ | refine Ba sv hlt ?_ | refine L.loadF oL k0 (c := ?_) | refine L.callQ hln (hpre := fun w hw => hr.at hw) (k := ?_))
        rw [e5]
        exact D.then_ fun a1 w1 hs => ⟨i + 1, ⟨hlt, by rw [take_succ_eq hx]; exact hfe⟩, by show l.length - (i + 1) < l.length - i; omega, hs.lessE rfl (lk_cons rfl (lk_cons rfl (lk_cons rfl (fun _ _ h => lk_nil h))))⟩
    · have c3 : cm .neq e 0 = true := cm_ne he
      rw [if_neg he, List.length_take, Nat.min_eq_left hi] at hfe
      have hlc : lcheck l = (i, e) := by unfold lcheck; rw [hfe]
      rw [hlc]
      repeat (first | refine Af ?_ | refine Ac ?_ | refine Aa ?_ | refine Ae ?_ | refine Ad ?_ | refine Ag ?_ | refine Ah ?_ | refine Am ?_ | refine Ai ?_ | refine An ?_ | refine Av ?_ | refine Bb ?_ | refine Ap ?_ | refine Az sv ?_ | refine L.callQ hln (hpre := fun w hw => hr.at hw) (k := ?_))
      (refine D.ret (vs := [_, _]) (RV.tmp rfl (RV.tmp rfl RV.nil)) ?_; intro w' hw; exact Post.mk (is := []) hw List.nodup_nil rfl ⟨rfl, rfl⟩)
  · have c1 : cm .lss (i : Int) l.length = false := cm_lo' (by omega)
    have hnone : firstE l [] l = none := by rw [hfe, List.drop_eq_nil_of_le hge]; rfl
    have hlc : lcheck l = (l.length, 0) := by unfold lcheck; rw [hnone]; simp only; rw [if_neg (by omega)]
    rw [hlc, List.take_of_length_le hge]
    have c2 : cm .gtr (total l : Int) 1048576 = false := cm_gt' (by omega)
    repeat (first | refine Af ?_ | refine Ac ?_ | refine Aa ?_ | refine Ae ?_ | refine Ad ?_ | refine Ag ?_ | refine Ah ?_ | refine Aj ?_ | refine An ?_ | refine C.exit ?_ | refine Bg ?_ | refine Bh ?_ | refine Ap ?_ | refine Az sv ?_)
    (refine D.ret (vs := [_, _]) (RV.tmp rfl (RV.tmp rfl RV.nil)) ?_; intro w' hw; exact Post.mk (is := []) hw List.nodup_nil rfl ⟨rfl, rfl⟩)
theorem rplaces_S (l : List Ln) (hl : l.length ≤ 1000) (hok : ∀ x ∈ l, x.ok) (v : Value) : Ctr Try.prog 22 [v] [] (fun w => Rd w [] v l.length (l.flatMap Ln.vs))
    (fun u B => ∃ y, osG 1 (plc l).length (nums (plc l)) y ∧ u = shut [osV (plc l).length y, .int .i64 (lcheck l).2] ∧ B = osC 3 y []) := by
  refine Ctr.enter Try.func22 Try.ntmps22 rfl rfl (fun w hr => ?_)
  have sv := hr.1
  have hC := rcheck_S l hl hok v
  have htl := total_le l
  unfold plc
  by_cases he : (lcheck l).2 = 0
  · rw [if_pos he]
    rw [he] at hC ⊢
    generalize (lcheck l).1 = q at hC
    repeat (first | refine Af ?_ | refine Ac ?_ | refine Aa ?_ | refine Ae ?_ | refine Ad ?_ | refine Ag ?_ | refine Ah ?_ | refine Bd ?_ | refine Aj ?_ | refine Ai ?_ | refine Ap ?_ | refine L.callQ hC (hpre := fun w hw => hr.at hw) (k := ?_))
    refine C.loop (α := Nat × OS) (fun z => z.1 ≤ l.length ∧ osG 1 z.1 (nums (places 0 (l.take z.1))) z.2) (fun z => [(0, v), (6, osV z.1 z.2), (7, .int .i64 (total (l.take z.1) : Int)), (8, .int .i64 (z.1 : Int))]) (fun z => osC 3 z.2 []) (fun z => l.length - z.1) (0, none)
      (fun a w hs => hs.lessE rfl (lk_cons rfl (lk_cons rfl (lk_cons rfl (lk_cons rfl (fun _ _ h => lk_nil h)))))) ⟨Nat.zero_le _, osG.nil⟩ ?_
    rintro ⟨i, y⟩ ⟨hi, hG⟩
    simp only at hi hG ⊢
    rcases Nat.lt_or_ge i l.length with hlt | hge
    · have c1 : cm .lss (i : Int) l.length = true := cm_lo (by omega)
      have c2 : ar .add .i64 (i : Int) 1 = ((i + 1 : Nat) : Int) := wrap_nat (by omega)
      obtain ⟨x, hx⟩ : ∃ x, l[i]? = some x := ⟨_, List.getElem?_eq_getElem hlt⟩
      have k0 := lab_at hx
      obtain ⟨_, kc, kl⟩ := ln_cell hx
      have oL := hr.2 (by omega)
      have hS := rsize_S x.ins (hok x (List.mem_of_getElem? hx)).2.1
      have htk := take_succ_total hx
      have htt : total (l.take (i + 1)) ≤ total l := by
        conv => rhs; rw [← List.take_append_drop (i + 1) l]
        rw [total_app]; omega
      have hm1 : i + 1 ≤ maxLen := by unfold maxLen; omega
      have hpl : nums (places 0 (l.take i)) ++ [.int .i64 (total (l.take i) : Int)] = nums (places 0 (l.take (i + 1))) := by rw [take_succ_eq hx, places_snoc, nums_snoc, Nat.zero_add]
      repeat (first | refine Af ?_ | refine Ac ?_ | refine Aa ?_ | refine Ae ?_ | refine Ad ?_ | refine Ah ?_ | refine Am ?_ | refine Ai ?_ | refine Ap ?_ | refine L.buildS (c := fun _ => ?_) | refine Az sv ?_)
      rename_i nb
      refine L.appendU [_] (L2 := []) (y := y) (m := i) (u := .slice (some ⟨nb, 0, none⟩) 1 1) (k := 1) (news := [.int .i64 (total (l.take i) : Int)]) hG rfl (fun w hw => Rd.own (hw.holds _ List.mem_cons_self) (by simp) (Nat.le_refl _) 1 rfl) rfl (ones_i _) hm1 (by omega) (c := fun y' hG' _ => ?_)
      rw [hpl] at hG'
      by_cases hz : x.lab = 0
      · have hsz : x.size = x.ins.out.size := if_pos hz
        have c4 : cm .eql x.lab 0 = true := cm_yes hz
        have c5 : ar .add .i64 (total (l.take i) : Int) x.ins.out.size = ((total (l.take (i + 1)) : Nat) : Int) := by rw [htk, hsz]; exact wrap_nat (by omega)
        repeat (first | refine Af ?_ | refine Ac ?_ | refine Aa ?_ | refine Ae ?_ | refine Ad ?_ | refine Ag ?_ | refine Ah ?_ | refine Ao ?_ | refine Ay ?_ | refine Am ?_ | refine Ar ?_ | refine Az sv ?_ | refine Ba sv hlt ?_ | refine L.loadF oL k0 (c := ?_) | refine L.loadOA oL (i := i * 11 + 1) (ho := by exact rfl) (hi := kl) (hcs := kc) (c := ?_) | refine Au (hS) ?_)
        exact D.then_ fun a1 w1 hs => ⟨(i + 1, y'), ⟨hlt, hG'⟩, by show l.length - (i + 1) < l.length - i; omega, hs.lessD 1 rfl (lk_cons rfl (lk_cons rfl (lk_cons rfl (lk_cons rfl (fun _ _ h => lk_nil h)))))⟩
      · have hsz : x.size = 0 := if_neg hz
        have c4 : cm .eql x.lab 0 = false := cm_no hz
        have e5 : total (l.take i) = total (l.take (i + 1)) := by rw [htk, hsz, Nat.add_zero]
        repeat (first | refine Af ?_ | refine Ac ?_ | refine Aa ?_ | refine Ae ?_ | refine Ad ?_ | refine Ag ?_ | refine Ah ?_ | refine Ao ?_ | refine Ay ?_ | refine Aj ?_ | refine Ar ?_ | refine Ap ?_ | refine Az sv ?_ | refine Ba sv hlt ?_ | refine L.loadF oL k0 (c := ?_))
        rw [e5]
        exact D.then_ fun a1 w1 hs => ⟨(i + 1, y'), ⟨hlt, hG'⟩, by show l.length - (i + 1) < l.length - i; omega, hs.lessD 1 rfl (lk_cons rfl (lk_cons rfl (lk_cons rfl (lk_cons rfl (fun _ _ h => lk_nil h)))))⟩
    · have c1 : cm .lss (i : Int) l.length = false := cm_lo' (by omega)
      have hie : i = l.length := by omega
      subst hie
      rw [List.take_of_length_le (Nat.le_refl _)] at hG
      have hpl := places_len l 0
      repeat (first | refine Af ?_ | refine Ac ?_ | refine Aa ?_ | refine Ae ?_ | refine Ad ?_ | refine Ag ?_ | refine Ah ?_ | refine Aj ?_ | refine An ?_ | refine C.exit ?_ | refine Bg ?_ | refine Bh ?_ | refine Bc ?_ | refine Az sv ?_)
      (refine D.ret (vs := [osV l.length y, .int .i64 0]) (RV.tmp rfl (RV.tmp rfl RV.nil)) ?_; intro w' hw; exact Post.mkD 0 hw rfl ⟨y, by rw [hpl]; exact hG, by rw [hpl], rfl⟩)
  · rw [if_neg he]
    generalize (lcheck l).1 = q at hC
    generalize (lcheck l).2 = e at hC he
    have c1 : cm .neq e 0 = true := cm_ne he
    repeat (first | refine Af ?_ | refine Ac ?_ | refine Aa ?_ | refine Ae ?_ | refine Ad ?_ | refine Ag ?_ | refine Ah ?_ | refine Bd ?_ | refine Am ?_ | refine An ?_ | refine Av ?_ | refine L.callQ hC (hpre := fun w hw => hr.at hw) (k := ?_))
    (refine D.ret (vs := [osV 0 none, .int .i64 e]) (RV.tmp rfl (RV.tmp rfl RV.nil)) ?_; intro w' hw; exact Post.mk (is := []) hw (by decide) rfl ⟨none, osG.nil, rfl, rfl⟩)
end Go.Proofs.Ytbcaelhchmoigaa.Ly
