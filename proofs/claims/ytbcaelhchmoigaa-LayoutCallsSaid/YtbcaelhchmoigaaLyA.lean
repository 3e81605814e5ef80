import Derived.Test.YtbcaelhchmoigaaLyP
import Derived.Test.YtbcaelhchmoigaaLyCmp
import Derived.Test.YtbcaelhchmoigaaSepM2
import Derived.Test.YtbcaelhchmoigaaFin
set_option linter.unusedVariables false
set_option linter.unusedSimpArgs false
namespace Go.Proofs.Ytbcaelhchmoigaa.Ly
open Go Go.RowKit Calm SL
attribute [local irreducible] SL.L SL.C SL.D SL.N SL.H SL.QL SL.QW SL.QP
theorem spec_b {f : Nat} {args : List Value} {v : Value} (h : ∀ w, Calls Try.prog f args.toArray w fun e w' => e = .returned v ∧ Below w.heap.size w w') : Ctr Try.prog f args [] tt (is v []) := by
  intro w _ _ _
  refine (h w).mono ?_
  rintro e w' ⟨rfl, hb⟩
  exact ⟨v, [], rfl, ⟨rfl, rfl⟩, Keeps.of_below hb _, by simp [keys], by simp, by simp⟩
def insV (x : Ins) : Value := .agg #[.int .i64 x.op, .int .i64 x.d, .int .i64 x.s, .int .i64 x.t, .int .i64 x.mb, .int .i64 x.mi, .int .i64 x.ms, .int .i64 x.md, .int .i64 x.imm]
theorem icheck_S (x : Ins) (h : x.ok) : Ctr Try.prog 41 [insV x] [] tt (is (.int .i64 (errOf x.chk)) []) := spec_b (fun w => check_any x.op x.d x.s x.t x.mb x.mi x.ms x.md x.imm w h.1 h.2)
theorem esize_S (x : Ins) (h : x.ok) : Ctr Try.prog 35 [insV x] [] tt (is (.int .i64 x.out.size) []) := spec_b (fun w => size_any x.op x.d x.s x.t x.mb x.mi x.ms x.md x.imm w h.1 h.2)
theorem einst_S (x : Ins) (h : x.ok) : Ctr Try.prog 29 [insV x] [] tt (is (.tuple #[.string x.out, .int .i64 (errOf x.chk)]) []) := spec_b (fun w => einst_any x.op x.d x.s x.t x.mb x.mi x.ms x.md x.imm w h.1 h.2)
theorem jump_S (x : Ins) (h : x.ok) : Ctr Try.prog 28 [insV x] [] tt (is (.bool x.jump) []) := by
  have hC := icheck_S x h
  have key : ((cm .eql x.op 30 = true ∨ (cm .eql x.op 30 = false ∧ cm .eql x.op 31 = true) ∨ (cm .eql x.op 30 = false ∧ cm .eql x.op 31 = false ∧ cm .eql x.op 32 = true)) ∧ x.jump = cm .eql (errOf x.chk) 0) ∨ ((cm .eql x.op 30 = false ∧ cm .eql x.op 31 = false ∧ cm .eql x.op 32 = false) ∧ x.jump = false) := by
    have e : cm .eql (errOf x.chk) 0 = x.chk := by cases x.chk <;> rfl
    rw [e]
    show ((((x.op == 30) = true ∨ _) ∧ _) ∨ _)
    unfold Ins.jump
    cases h1 : x.op == 30 with
    | true => left; exact ⟨.inl rfl, by simp⟩
    | false =>
    cases h2 : x.op == 31 with
    | true => left; exact ⟨.inr (.inl ⟨h1, h2⟩), by simp⟩
    | false =>
    cases h3 : x.op == 32 with
    | true => left; exact ⟨.inr (.inr ⟨h1, h2, h3⟩), by simp⟩
    | false => right; exact ⟨⟨h1, h2, h3⟩, by simp⟩
  refine Ctr.enter Try.func28 Try.ntmps28 rfl rfl (fun w _ => ?_)
  unfold insV at hC ⊢
  rcases key with ⟨c1 | ⟨c1, c2⟩ | ⟨c1, c2, c3⟩, he⟩ | ⟨⟨c1, c2, c3⟩, he⟩
  all_goals rw [he]
  all_goals repeat (first | refine Af ?_ | refine Ac ?_ | refine Aa ?_ | refine Ae ?_ | refine Ad ?_ | refine Ag ?_ | refine Ah ?_ | refine Ao ?_ | refine Ay ?_ | refine Ak 0 ?_ | refine Ak 1 ?_ | refine Ak 2 ?_ | refine Ak 3 ?_ | refine Ak 4 ?_ | refine Al 0 ?_ | refine Al 1 ?_ | refine Al 2 ?_ | refine Al 3 ?_ | refine Al 4 ?_ | refine Ab 0 ?_ | refine Ab 1 ?_ | refine Ab 2 ?_ | refine Ab 3 ?_ | refine Ab 4 ?_ | refine Bd ?_ | refine As ?_ | refine Aq (fun _ => ?_) | refine L.box (c := fun _ => ?_) | refine L.nilCheck (k := ?_) | refine Am ?_ | refine Aj ?_ | refine Be ?_ | refine Ax ?_ | refine Aw ?_ | refine Bf ?_ | refine L.not (c := ?_) | refine L.lenS (c := ?_) | refine L.strNe (c := ?_) | refine L.strEq (c := ?_) | refine L.lenV (c := ?_) | refine Ai ?_ | refine Ar ?_ | refine An ?_ | refine Av ?_ | refine Bb ?_ | refine C.exit ?_ | refine Bg ?_ | refine Bh ?_ | refine D.blkOther (h := ?_) | refine Ap ?_ | refine L.convI (c := ?_) | refine L.makeMap (c := fun _ => ?_) | refine D.any ?_ | refine Bc ?_ | refine L.eqA (c := ?_) | refine L.neA (c := ?_) | refine L.funNil (c := ?_) | refine L.eqB (c := ?_) | refine L.neB (c := ?_) | refine L.passU (k := ?_) | refine L.makeFunc (k := ?_) | refine L.buildS (c := fun _ => ?_) | exact D.endsQ | refine QL.fin ?_ | refine C.quiet (h := ?_) | refine N.fin (h := ?_) | refine L.assertY (c := ?_) | refine L.assertN (c := ?_) | refine N.one (i := 0) (h := ?_) | refine N.one (i := 1) (h := ?_) | refine N.one (i := 2) (h := ?_) | refine N.one (i := 3) (h := ?_) | refine N.one (i := 4) (h := ?_) | refine N.one (i := 5) (h := ?_) | refine N.one (i := 6) (h := ?_) | refine N.one (i := 7) (h := ?_) | refine N.one (i := 8) (h := ?_) | refine N.one (i := 9) (h := ?_) | refine N.one (i := 10) (h := ?_) | refine N.one (i := 11) (h := ?_) | (refine QL.step (v := ?_) (by exact rfl) (by exact rfl) ?_ ?_; rotate_left) | refine Au (hC) ?_)
  all_goals (refine D.ret (vs := [_]) (RV.tmp rfl RV.nil) ?_; intro w' hw; exact Post.mk (is := []) hw List.nodup_nil rfl ⟨rfl, rfl⟩)
theorem line_cases (x : Ln) (a n : Nat) (fa fb : Int → Int) (ha : 0 < x.lab → fa x.lab = a) (hb : 1 ≤ x.to → fb x.to = n) :
    (lineE a n x = 2 ∧ cm .lss x.lab 0 = true) ∨
    ((cm .lss x.lab 0 = false ∧ cm .gtr x.lab 0 = true) ∧ ((lineE a n x = 2 ∧ x.ins.isZ = false) ∨ (lineE a n x = 2 ∧ x.ins.isZ = true ∧ cm .neq x.to 0 = true) ∨
      (lineE a n x = 6 ∧ x.ins.isZ = true ∧ cm .neq x.to 0 = false ∧ cm .gtr (fa x.lab) 0 = true) ∨ (lineE a n x = 0 ∧ x.ins.isZ = true ∧ cm .neq x.to 0 = false ∧ cm .gtr (fa x.lab) 0 = false))) ∨
    ((cm .lss x.lab 0 = false ∧ cm .gtr x.lab 0 = false) ∧ ((lineE a n x = 2 ∧ cm .neq (errOf x.ins.chk) 0 = true) ∨
      (cm .neq (errOf x.ins.chk) 0 = false ∧ ((x.ins.jump = true ∧ ((lineE a n x = 2 ∧ cm .neq x.ins.imm 0 = true) ∨ (cm .neq x.ins.imm 0 = false ∧ ((lineE a n x = 5 ∧ cm .lss x.to 1 = true) ∨ (lineE a n x = 5 ∧ cm .lss x.to 1 = false ∧ cm .eql (fb x.to) 0 = true) ∨
        (lineE a n x = 0 ∧ cm .lss x.to 1 = false ∧ cm .eql (fb x.to) 0 = false))))) ∨
      (x.ins.jump = false ∧ ((lineE a n x = 2 ∧ cm .neq x.to 0 = true) ∨ (lineE a n x = 0 ∧ cm .neq x.to 0 = false))))))) := by
  rcases Int.lt_trichotomy x.lab 0 with hl | hl | hl
  · exact .inl ⟨by unfold lineE; rw [if_pos (.inl hl)], cm_lo hl⟩
  · refine .inr (.inr ⟨⟨cm_lo' (by omega), cm_gt' (by omega)⟩, ?_⟩)
    have hd : lineE a n x = if x.ins.chk = false ∨ (x.ins.jump = true ∧ x.ins.imm ≠ 0) ∨ (x.ins.jump = false ∧ x.to ≠ 0) then 2 else if x.ins.jump = true ∧ (x.to < 1 ∨ n = 0) then 5 else 0 := by
      unfold lineE; rw [if_neg (by omega), if_neg (by omega), if_neg (by omega)]
    rw [hd]
    cases hc : x.ins.chk with
    | false => exact .inl ⟨by simp, rfl⟩
    | true =>
    refine .inr ⟨rfl, ?_⟩
    cases hj : x.ins.jump with
    | true =>
      refine .inl ⟨rfl, ?_⟩
      by_cases hi : x.ins.imm = 0
      · refine .inr ⟨cm_ne' hi, ?_⟩
        by_cases ht : x.to < 1
        · exact .inl ⟨by simp [hi, ht], cm_lo ht⟩
        · right
          have hbt := hb (by omega)
          by_cases hn : n = 0
          · exact .inl ⟨by simp [hi, hn], cm_lo' (by omega), cm_yes (by omega)⟩
          · exact .inr ⟨by simp [hi, hn, ht], cm_lo' (by omega), cm_no (by omega)⟩
      · exact .inl ⟨by simp [hi], cm_ne hi⟩
    | false =>
      refine .inr ⟨rfl, ?_⟩
      by_cases ht : x.to = 0
      · exact .inr ⟨by simp [ht], cm_ne' ht⟩
      · exact .inl ⟨by simp [ht], cm_ne ht⟩
  · refine .inr (.inl ⟨⟨cm_lo' (by omega), cm_gt hl⟩, ?_⟩)
    have hal := ha hl
    have hneg : ¬ x.lab < 0 := by omega
    cases hz : x.ins.isZ with
    | false => exact .inl ⟨by unfold lineE; simp [hz, hl], rfl⟩
    | true =>
    by_cases ht : x.to = 0
    · by_cases h0 : 0 < a
      · exact .inr (.inr (.inl ⟨by unfold lineE; simp [hz, ht, hl, hneg, h0], rfl, cm_ne' ht, cm_gt (by omega)⟩))
      · exact .inr (.inr (.inr ⟨by unfold lineE; simp [hz, ht, hl, hneg, h0], rfl, cm_ne' ht, cm_gt' (by omega)⟩))
    · exact .inr (.inl ⟨by unfold lineE; simp [hz, ht, hl], rfl, cm_ne ht⟩)
set_option maxRecDepth 100000 in
set_option maxHeartbeats 4000000 in
theorem line_S (x : Ln) (h : x.ok) (a n ba bb : Nat) (fa fb : Int → Int) (ha : 0 < x.lab → fa x.lab = a) (hb : 1 ≤ x.to → fb x.to = n) :
    Ctr Try.prog 26 [x.V, .map (some ba), .map (some bb)] [] (fun w => (∃ o, w.heap[ba]? = some o ∧ MapF o fa) ∧ (∃ o, w.heap[bb]? = some o ∧ MapF o fb)) (is (.int .i64 (lineE a n x)) []) := by
  refine Ctr.enter Try.func26 Try.ntmps26 rfl rfl (fun w hw => ?_)
  obtain ⟨⟨oa, a1, a2⟩, ⟨ob, b1, b2⟩⟩ := hw
  have hC := icheck_S x.ins h.2.1
  have hJ := jump_S x.ins h.2.1
  unfold insV at hC hJ
  unfold Ln.V
  rcases line_cases x a n fa fb ha hb with ⟨he, c1⟩ | ⟨⟨c1, c2⟩, ⟨he, hz⟩ | ⟨he, hz, c3⟩ | ⟨he, hz, c3, c4⟩ | ⟨he, hz, c3, c4⟩⟩ | ⟨⟨c1, c2⟩, ⟨he, c3⟩ | ⟨c3, ⟨hj, ⟨he, c4⟩ | ⟨c4, ⟨he, c5⟩ | ⟨he, c5, c6⟩ | ⟨he, c5, c6⟩⟩⟩ | ⟨hj, ⟨he, c4⟩ | ⟨he, c4⟩⟩⟩⟩
  all_goals rw [he]
  all_goals try rw [hj] at hJ
  all_goals repeat (first | refine L.neA (b := true) (he := by exact congrArg some hz) (c := ?_) | refine L.neA (b := false) (he := by exact congrArg some hz) (c := ?_) | refine Af ?_ | refine Ac ?_ | refine Aa ?_ | refine Ae ?_ | refine Ad ?_ | refine Ag ?_ | refine Ah ?_ | refine Ao ?_ | refine Ay ?_ | refine Ak 0 ?_ | refine Ak 1 ?_ | refine Ak 2 ?_ | refine Ak 3 ?_ | refine Ak 4 ?_ | refine Al 0 ?_ | refine Al 1 ?_ | refine Al 2 ?_ | refine Al 3 ?_ | refine Al 4 ?_ | refine Ab 0 ?_ | refine Ab 1 ?_ | refine Ab 2 ?_ | refine Ab 3 ?_ | refine Ab 4 ?_ | refine Bd ?_ | refine As ?_ | refine Aq (fun _ => ?_) | refine L.box (c := fun _ => ?_) | refine L.nilCheck (k := ?_) | refine Am ?_ | refine Aj ?_ | refine Be ?_ | refine Ax ?_ | refine Aw ?_ | refine Bf ?_ | refine L.not (c := ?_) | refine L.lenS (c := ?_) | refine L.strNe (c := ?_) | refine L.strEq (c := ?_) | refine L.lenV (c := ?_) | refine Ai ?_ | refine Ar ?_ | refine An ?_ | refine Av ?_ | refine Bb ?_ | refine C.exit ?_ | refine Bg ?_ | refine Bh ?_ | refine D.blkOther (h := ?_) | refine Ap ?_ | refine L.convI (c := ?_) | refine L.makeMap (c := fun _ => ?_) | refine D.any ?_ | refine Bc ?_ | refine L.eqA (c := ?_) | refine L.neA (c := ?_) | refine L.funNil (c := ?_) | refine L.eqB (c := ?_) | refine L.neB (c := ?_) | refine L.passU (k := ?_) | refine L.makeFunc (k := ?_) | refine L.buildS (c := fun _ => ?_) | exact D.endsQ | refine QL.fin ?_ | refine C.quiet (h := ?_) | refine N.fin (h := ?_) | refine L.assertY (c := ?_) | refine L.assertN (c := ?_) | refine N.one (i := 0) (h := ?_) | refine N.one (i := 1) (h := ?_) | refine N.one (i := 2) (h := ?_) | refine N.one (i := 3) (h := ?_) | refine N.one (i := 4) (h := ?_) | refine N.one (i := 5) (h := ?_) | refine N.one (i := 6) (h := ?_) | refine N.one (i := 7) (h := ?_) | refine N.one (i := 8) (h := ?_) | refine N.one (i := 9) (h := ?_) | refine N.one (i := 10) (h := ?_) | refine N.one (i := 11) (h := ?_) | (refine QL.step (v := ?_) (by exact rfl) (by exact rfl) ?_ ?_; rotate_left) | refine Au (hC) ?_ | refine Au (hJ) ?_ | refine L.lookO a2 a1 (by simp [keys]) (c := ?_) | refine L.lookO b2 b1 (by simp [keys]) (c := ?_))
  all_goals (refine D.ret (vs := [_]) (RV.tmp rfl RV.nil) ?_; intro w' hw; exact Post.mk (is := []) hw List.nodup_nil rfl ⟨rfl, rfl⟩)
end Go.Proofs.Ytbcaelhchmoigaa.Ly
