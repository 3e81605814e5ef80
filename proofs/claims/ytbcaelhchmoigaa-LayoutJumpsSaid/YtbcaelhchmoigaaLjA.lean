/- keysmithref05.Jump; LayoutJumps: the walk. -/
import Derived.Test.YtbcaelhchmoigaaLjP
import Derived.Test.YtbcaelhchmoigaaLyF
import Derived.Test.YtbcaelhchmoigaaFrL
import Derived.Test.YtbcaelhchmoigaaRcF
set_option linter.unusedVariables false
set_option linter.unusedSimpArgs false
namespace Go.Proofs.Ytbcaelhchmoigaa.Ly
open Go Go.RowKit Calm SL
attribute [local irreducible] SL.L SL.C SL.D SL.N SL.H SL.QL SL.QW SL.QP

theorem rjump_S (x : Ins) : Ctr Try.prog 14 [insV x] [] tt (is (.bool x.jump) []) := by
  have hC : Ctr Try.prog 32 [insV x] [] tt (is (.int .i64 (errOf x.chk)) []) := spec_b (fun w => rcheck_any x.op x.d x.s x.t x.mb x.mi x.ms x.md x.imm w)
  have key : (cm .eql (errOf x.chk) 0 = false ∧ x.jump = false) ∨ (cm .eql (errOf x.chk) 0 = true ∧ ((cm .eql x.op 30 = true ∧ x.jump = true) ∨ (cm .eql x.op 30 = false ∧ cm .eql x.op 31 = true ∧ x.jump = true) ∨ (cm .eql x.op 30 = false ∧ cm .eql x.op 31 = false ∧ cm .eql x.op 32 = true ∧ x.jump = true) ∨ (cm .eql x.op 30 = false ∧ cm .eql x.op 31 = false ∧ cm .eql x.op 32 = false ∧ x.jump = false))) := by
    unfold Ins.jump
    cases hc : x.chk with
    | false => left; exact ⟨rfl, by simp⟩
    | true =>
      right
      refine ⟨rfl, ?_⟩
      show (((x.op == 30) = true ∧ _) ∨ _)
      cases h1 : x.op == 30 with
      | true => exact .inl ⟨rfl, by simp⟩
      | false =>
      cases h2 : x.op == 31 with
      | true => exact .inr (.inl ⟨h1, h2, by simp⟩)
      | false =>
      cases h3 : x.op == 32 with
      | true => exact .inr (.inr (.inl ⟨h1, h2, h3, by simp⟩))
      | false => exact .inr (.inr (.inr ⟨h1, h2, h3, by simp⟩))
  unfold insV at hC ⊢
  refine Ctr.enter Try.func14 Try.ntmps14 rfl rfl (fun w _ => ?_)
  rcases key with ⟨c0, he⟩ | ⟨c0, ⟨c1, he⟩ | ⟨c1, c2, he⟩ | ⟨c1, c2, c3, he⟩ | ⟨c1, c2, c3, he⟩⟩
  all_goals rw [he]
  all_goals repeat (first | refine C.seq ?_ | refine C.region ?_ | refine L.nil ?_ | refine D.seq ?_ | refine L.move (k := ?_) | refine L.assign (k := ?_) | refine L.cm (c := ?_) | refine L.fieldAddr (c := ?_) | refine L.load1 0 (c := ?_) | refine L.loadA 0 (c := ?_) | refine L.box (c := fun _ => ?_) | refine L.pickT (k := ?_) | refine L.pickF (k := ?_) | refine L.want (k := ?_) | refine L.pass (k := ?_) | refine C.ret ?_ | refine L.passU (k := ?_) | refine L.callQ (hC) (k := ?_))
  all_goals (refine D.ret (vs := [_]) (RV.tmp rfl RV.nil) ?_; intro w' hw; exact Post.mk (is := []) hw List.nodup_nil rfl ⟨rfl, rfl⟩)
/-- Is a label found at a place, ahead of a line? -/
def fnd (l : List Ln) (to goal : Int) : Nat → Bool
  | 0 => false
  | k + 1 => fnd l to goal k || (match l[k]? with | some y => y.lab == to && (total (l.take k) : Int) == goal | none => false)
theorem fnd_of {l : List Ln} {to goal : Int} {k : Nat} {y : Ln} (hk : l[k]? = some y) (h1 : y.lab = to) (h2 : (total (l.take k) : Int) = goal) : ∀ {n : Nat}, k < n → fnd l to goal n = true
  | n + 1, h => by
    unfold fnd
    rcases Nat.lt_or_ge k n with h3 | h3
    · rw [fnd_of hk h1 h2 h3]; rfl
    · have : k = n := by omega
      subst this
      rw [hk]; simp [h1, h2]
theorem take_succ_total {l : List Ln} {i : Nat} {x : Ln} (h : l[i]? = some x) : total (l.take (i + 1)) = total (l.take i) + x.size := by rw [take_succ_eq h, total_snoc]
theorem eq9 (a b c d e f g h i : Int) : eqK [.int .i64, .int .i64, .int .i64, .int .i64, .int .i64, .int .i64, .int .i64, .int .i64, .int .i64] [.int .i64 a, .int .i64 b, .int .i64 c, .int .i64 d, .int .i64 e, .int .i64 f, .int .i64 g, .int .i64 h, .int .i64 i] [.int .i64 a, .int .i64 b, .int .i64 c, .int .i64 d, .int .i64 e, .int .i64 f, .int .i64 g, .int .i64 h, .int .i64 i] = some true := by simp [eqK, eqL]
set_option maxRecDepth 100000 in
set_option maxHeartbeats 16000000 in
theorem jumps_S (l : List Ln) (hm : l.length ≤ maxLen) (hok : ∀ x ∈ l, x.ok) (v : Value) : Ctr Try.prog 3 [v] [] (fun w => Rd w [] v l.length (l.flatMap Ln.vs)) (is (.bool true) []) := by
  refine Ctr.enter Try.func3 Try.ntmps3 rfl rfl (fun w hr => ?_)
  have sv := hr.1
  by_cases h60 : 60 < l.length
  · have c0 : cm .gtr (l.length : Int) 60 = true := cm_gt (by omega)
    repeat (first | refine C.seq ?_ | refine C.region ?_ | refine L.nil ?_ | refine D.seq ?_ | refine L.move (k := ?_) | refine L.assign (k := ?_) | refine L.cm (c := ?_) | refine C.yes (h1 := ?_) | refine C.no (h1 := ?_) | refine L.not (c := ?_) | refine C.ret ?_ | refine D.thenRet ?_ | refine C.skip ?_ | refine L.lenR sv (c := ?_) | refine L.callQ (lives_S) (k := ?_))
    (refine D.ret (vs := [_]) (RV.tmp rfl RV.nil) ?_; intro w' hw; exact Post.mk (is := []) hw List.nodup_nil rfl ⟨rfl, rfl⟩)
  have c0 : cm .gtr (l.length : Int) 60 = false := cm_gt' (by omega)
  have hC := lcheck_S l (by omega) hok v
  have hP := places_S l (by omega) hok v
  have hB := lbytes_S l (by omega) hok v
  have hle := lcheck_le l
  by_cases he : (lcheck l).2 ≠ 0
  · have hb : lbytes l = (⟨#[]⟩, (lcheck l).2) := by unfold lbytes; rw [if_neg he]
    have hp : plc l = [] := by unfold plc; rw [if_neg he]
    rw [hb] at hB
    simp only at hB
    have hsq : seq ⟨#[]⟩ ⟨#[]⟩ = true := by unfold seq; simp
    rw [hp] at hP
    generalize (lcheck l).1 = n at *
    generalize (lcheck l).2 = e at *
    have c1 : cm .neq e 0 = true := cm_ne he
    have c2 : cm .eql e e = true := cm_yes rfl
    have c3 : cm .geq (n : Int) 0 = true := cm_ge (by omega)
    have c4 : cm .leq (n : Int) l.length = true := cm_le (by omega)
    repeat (first | refine C.seq ?_ | refine C.region ?_ | refine L.nil ?_ | refine D.seq ?_ | refine L.move (k := ?_) | refine L.assign (k := ?_) | refine L.cm (c := ?_) | refine L.extract (c := ?_) | refine C.yes (h1 := ?_) | refine C.no (h1 := ?_) | refine L.pickT (k := ?_) | refine L.want (k := ?_) | refine L.not (c := ?_) | refine L.strEq (c := ?_) | refine C.ret ?_ | refine D.thenRet ?_ | refine C.skip ?_ | refine D.seqR (h := ?_) | refine L.lenR sv (c := ?_) | refine L.callQ (lives_S) (k := ?_) | refine L.callQ hC (hpre := fun w hw => hr.at hw) (k := ?_) | (refine L.callO hP (G := fun u => [u, .int .i64 e]) (hpre := fun w hw => hr.at hw) (k := ?_); intro y w1 h1 r1; have rl := hr.back h1) | refine L.callQ hB (hpre := fun w hw => rl.at hw) (k := ?_) | refine L.lenR r1.1 (c := ?_) | refine L.lenR rl.1 (c := ?_))
    --@1
    (refine D.ret (vs := [_]) (RV.tmp rfl RV.nil) ?_; intro w' hw; exact Post.mk (is := []) (At.back h1 hw) List.nodup_nil rfl ⟨rfl, rfl⟩)
  replace he : (lcheck l).2 = 0 := by omega
  obtain ⟨j1, j2, j3, j4⟩ := jumps_law (by omega) hok he
  have hp := places_eq l he
  rw [hp, places_len, he] at hP
  rw [j1, he] at hC
  obtain ⟨⟨s, g0⟩, hs⟩ : ∃ S, lbytes l = S := ⟨_, rfl⟩
  rw [hs] at hB j2 j3 j4
  simp only at hB j2 j3 j4
  subst j2
  have htl := total_le l
  have c5 : cm .neq (l.length : Int) l.length = false := cm_ne' rfl
  repeat (first | refine C.seq ?_ | refine C.region ?_ | refine L.nil ?_ | refine D.seq ?_ | refine L.move (k := ?_) | refine L.assign (k := ?_) | refine L.cm (c := ?_) | refine L.extract (c := ?_) | refine C.no (h1 := ?_) | refine L.pickF (k := ?_) | refine L.want (k := ?_) | refine L.not (c := ?_) | refine C.block ?_ | refine C.skip ?_ | refine D.seqR (h := ?_) | refine L.lenR sv (c := ?_) | refine L.callQ (lives_S) (k := ?_) | refine L.callQ hC (hpre := fun w hw => hr.at hw) (k := ?_) | (refine L.callO hP (G := fun u => [u, .int .i64 0]) (hpre := fun w hw => hr.at hw) (k := ?_); intro y w1 h1 r1; have rl := hr.back h1) | refine L.callQ hB (hpre := fun w hw => rl.at hw) (k := ?_) | refine L.lenR r1.1 (c := ?_) | refine L.lenR rl.1 (c := ?_))
  --@2
  refine C.loop (α := Nat) (fun i => i ≤ l.length) (fun i => [(0, v), (5, osV l.length y), (7, .string s), (9, .int .i64 (total (l.take i) : Int)), (10, .int .i64 (i : Int))]) (fun _ => []) (fun i => l.length - i) 0 (fun a w hs => hs.lessE rfl (lk_cons rfl (lk_cons rfl (lk_cons rfl (lk_cons rfl (lk_cons rfl (fun _ _ h => lk_nil h))))))) (Nat.zero_le _) ?_
  intro i hi
  rcases Nat.lt_or_ge i l.length with hlt | hge
  · have c1 : cm .lss (i : Int) l.length = true := cm_lo (by omega)
    have c2 : ar .add .i64 (i : Int) 1 = ((i + 1 : Nat) : Int) := wrap_nat (by omega)
    obtain ⟨x, hx⟩ : ∃ x, l[i]? = some x := ⟨_, List.getElem?_eq_getElem hlt⟩
    have oL := rl.2 (by omega)
    have oP := r1.2 (by omega)
    have kp := nums_get (places_get hlt)
    have k0 : (l.flatMap Ln.vs)[i * 11 + 0]? = some (.int .i64 x.lab) := flat_get vs_len _ i x hx 0 (by decide)
    obtain ⟨k10, ki, kil⟩ := ln_cell hx
    have htk := take_succ_total hx
    have htt : total (l.take (i + 1)) ≤ total l := by
      conv => rhs; rw [← List.take_append_drop (i + 1) l]
      rw [total_app]; omega
    have c3 : cm .neq (total (l.take i) : Int) (total (l.take i)) = false := cm_ne' rfl
    by_cases hz : x.lab = 0
    · have c4 : cm .neq x.lab 0 = false := cm_ne' hz
      obtain ⟨z, q1, q2, q3, q4, q5, q6⟩ := j4 i x hx hz
      have hI := rinst7_S s (total (l.take i)) q2 (by omega)
      rw [q1] at hI
      simp only at hI
      have hJ := rjump_S z
      unfold insV at hJ
      rw [q4] at hJ
      have c6 : ar .add .i64 (total (l.take i) : Int) x.size = (total (l.take (i + 1)) : Int) := by rw [htk]; exact wrap_nat (by omega)
      cases hj : x.ins.jump with
      | false =>
        rw [hj] at hJ
        have hzx := q5 hj
        subst hzx
        repeat' (first | refine L.neA (b := true) (he := by exact eq9 _ _ _ _ _ _ _ _ _) (c := ?_) | refine C.seq ?_ | refine C.region ?_ | refine L.nil ?_ | refine D.seq ?_ | refine L.move (k := ?_) | refine L.assign (k := ?_) | refine L.cm (c := ?_) | refine L.ar (c := ?_) | refine L.fieldAddr (c := ?_) | refine L.loadA 0 (c := ?_) | refine L.storeV 0 (c := ?_) | refine L.extract (c := ?_) | refine L.alloc (c := fun _ => ?_) | refine C.yes (h1 := ?_) | refine C.no (h1 := ?_) | refine C.block ?_ | refine D.blkNormal ?_ | refine C.skip ?_ | exact D.endsQ | refine QL.fin ?_ | refine C.quiet (h := ?_) | (refine QL.step (v := ?_) (by exact rfl) (by exact rfl) ?_ ?_; rotate_left) | refine L.lenR rl.1 (c := ?_) | refine L.indexR rl.1 hlt (c := ?_) | refine L.indexR r1.1 hlt (c := ?_) | refine L.loadF oP kp (c := ?_) | refine L.loadF oL k0 (c := ?_) | refine L.loadF oL k10 (c := ?_) | refine L.loadOA oL (i := i * 11 + 1) (ho := by exact rfl) (hi := kil) (hcs := ki) (c := ?_) | refine L.callQ (hI) (k := ?_) | refine L.callQ (hJ) (k := ?_) | refine C.quietA (h := ?_))
        --@3
        exact D.then_ fun a1 w1 hs => ⟨i + 1, hlt, by omega, hs.lessD 1 rfl (lk_cons rfl (lk_cons rfl (lk_cons rfl (lk_cons rfl (lk_cons rfl (fun _ _ h => lk_nil h))))))⟩
      | true =>
        rw [hj] at hJ
        obtain ⟨e1, k, q, k1, k2, k3⟩ := q6 hj
        have hkl : k < l.length := (List.getElem?_eq_some_iff.1 k1).1
        have htk2 : total (l.take k) ≤ total l := by
          conv => rhs; rw [← List.take_append_drop k l]
          rw [total_app]; omega
        have c8 : ar .add .i64 (total (l.take (i + 1)) : Int) z.imm = (total (l.take k) : Int) := by
          have e : (total (l.take (i + 1)) : Int) + z.imm = total (l.take k) := by omega
          show IntKind.i64.wrap (_ + _) = _
          rw [e]; exact wrap_nat (by omega)
        have hki : ((l.flatMap Ln.vs).drop (i * 11 + 1)).take 9 = Ins.vs (setI z 0) := by rw [e1]; exact ki
        repeat (first | refine C.seq ?_ | refine C.region ?_ | refine L.nil ?_ | refine D.seq ?_ | refine L.move (k := ?_) | refine L.assign (k := ?_) | refine L.cm (c := ?_) | refine L.ar (c := ?_) | refine L.fieldAddr (c := ?_) | refine L.load1 0 (c := ?_) | refine L.loadA 0 (c := ?_) | refine L.storeV 0 (c := ?_) | refine L.extract (c := ?_) | refine L.alloc (c := fun _ => ?_) | refine C.yes (h1 := ?_) | refine C.no (h1 := ?_) | refine C.block ?_ | refine C.skip ?_ | refine L.lenR rl.1 (c := ?_) | refine L.indexR rl.1 hlt (c := ?_) | refine L.indexR r1.1 hlt (c := ?_) | refine L.loadF oP kp (c := ?_) | refine L.loadF oL k0 (c := ?_) | refine L.loadF oL k10 (c := ?_) | refine L.loadOA oL (i := i * 11 + 1) (ho := by exact rfl) (hi := kil) (hcs := ki) (c := ?_) | refine L.callQ (hI) (k := ?_) | refine L.callQ (hJ) (k := ?_))
        rename_i bx
        --@4
        generalize hgo : (total (l.take k) : Int) = goal
        refine C.loop (α := Nat) (fun j => j ≤ l.length) (fun j => [(0, v), (5, osV l.length y), (7, .string s), (9, .int .i64 (total (l.take i) : Int)), (10, .int .i64 (i : Int)), (11, .pointer (some ⟨bx, 0, none⟩)), (12, .int .i64 x.size), (14, .int .i64 goal), (15, .bool (fnd l x.to goal j)), (16, .int .i64 (j : Int))]) (fun _ => [(bx, ob [.int .i64 z.op, .int .i64 z.d, .int .i64 z.s, .int .i64 z.t, .int .i64 z.mb, .int .i64 z.mi, .int .i64 z.ms, .int .i64 z.md, .int .i64 z.imm] 35)]) (fun j => l.length - j) 0 (fun a w hs => hs.lessE rfl (lk_cons rfl (lk_cons rfl (lk_cons rfl (lk_cons rfl (lk_cons rfl (lk_cons rfl (lk_cons rfl (lk_cons rfl (lk_cons rfl (lk_cons rfl (fun _ _ h => lk_nil h)))))))))))) (Nat.zero_le _) ?_
        intro j hj
        rcases Nat.lt_or_ge j l.length with hjl | hjg
        · have d1 : cm .lss (j : Int) l.length = true := cm_lo (by omega)
          have d2 : ar .add .i64 (j : Int) 1 = ((j + 1 : Nat) : Int) := wrap_nat (by omega)
          obtain ⟨y', hy⟩ : ∃ y', l[j]? = some y' := ⟨_, List.getElem?_eq_getElem hjl⟩
          have p0 : (l.flatMap Ln.vs)[j * 11 + 0]? = some (.int .i64 y'.lab) := flat_get vs_len _ j y' hy 0 (by decide)
          have pk := nums_get (places_get hjl)
          have hfs : fnd l x.to goal (j + 1) = (fnd l x.to goal j || (y'.lab == x.to && (total (l.take j) : Int) == goal)) := by
            show (_ || _) = _
            rw [hy]
          cases hf : fnd l x.to goal j with
          | true =>
            rw [hf] at hfs
            repeat' (first | refine C.seq ?_ | refine C.region ?_ | refine L.nil ?_ | refine D.seq ?_ | refine L.move (k := ?_) | refine L.assign (k := ?_) | refine L.cm (c := ?_) | refine L.ar (c := ?_) | refine C.yes (h1 := ?_) | refine L.pickT (k := ?_) | refine L.pass (k := ?_) | refine C.block ?_ | refine D.blkNormal ?_ | refine C.skip ?_ | refine L.passU (k := ?_) | exact D.endsQ | refine QL.fin ?_ | (refine QL.step (v := ?_) (by exact rfl) (by exact rfl) ?_ ?_; rotate_left) | refine L.lenR rl.1 (c := ?_) | refine L.indexR rl.1 hjl (c := ?_) | refine L.indexR rl.1 hlt (c := ?_) | refine L.indexR r1.1 hjl (c := ?_) | refine L.loadF oP pk (c := ?_) | refine L.loadF oL p0 (c := ?_) | refine L.loadF oL k10 (c := ?_) | refine C.quietA (h := ?_))
            exact D.then_ fun a1 w1 hs => ⟨j + 1, hjl, by omega, by rw [hfs]; exact hs.lessE rfl (lk_cons rfl (lk_cons rfl (lk_cons rfl (lk_cons rfl (lk_cons rfl (lk_cons rfl (lk_cons rfl (lk_cons rfl (lk_cons rfl (lk_cons rfl (fun _ _ h => lk_nil h)))))))))))⟩
          | false =>
            rw [hf] at hfs
            cases h1 : (y'.lab == x.to) with
            | false =>
              have d3 : cm .eql y'.lab x.to = false := h1
              rw [h1] at hfs
              repeat' (first | refine C.seq ?_ | refine C.region ?_ | refine L.nil ?_ | refine D.seq ?_ | refine L.move (k := ?_) | refine L.assign (k := ?_) | refine L.cm (c := ?_) | refine L.ar (c := ?_) | refine L.fieldAddr (c := ?_) | refine C.yes (h1 := ?_) | refine L.pickF (k := ?_) | refine L.want (k := ?_) | refine L.pass (k := ?_) | refine C.block ?_ | refine D.blkNormal ?_ | refine C.skip ?_ | exact D.endsQ | refine QL.fin ?_ | (refine QL.step (v := ?_) (by exact rfl) (by exact rfl) ?_ ?_; rotate_left) | refine L.lenR rl.1 (c := ?_) | refine L.indexR rl.1 hjl (c := ?_) | refine L.indexR rl.1 hlt (c := ?_) | refine L.indexR r1.1 hjl (c := ?_) | refine L.loadF oP pk (c := ?_) | refine L.loadF oL p0 (c := ?_) | refine L.loadF oL k10 (c := ?_) | refine C.quietA (h := ?_))
              exact D.then_ fun a1 w1 hs => ⟨j + 1, hjl, by omega, by rw [hfs]; exact hs.lessE rfl (lk_cons rfl (lk_cons rfl (lk_cons rfl (lk_cons rfl (lk_cons rfl (lk_cons rfl (lk_cons rfl (lk_cons rfl (lk_cons rfl (lk_cons rfl (fun _ _ h => lk_nil h)))))))))))⟩
            | true =>
              have d3 : cm .eql y'.lab x.to = true := h1
              rw [h1] at hfs
              obtain ⟨b, hb⟩ : ∃ b, ((total (l.take j) : Int) == goal) = b := ⟨_, rfl⟩
              have d4 : cm .eql (total (l.take j) : Int) goal = b := hb
              rw [hb] at hfs
              repeat' (first | refine C.seq ?_ | refine C.region ?_ | refine L.nil ?_ | refine D.seq ?_ | refine L.move (k := ?_) | refine L.assign (k := ?_) | refine L.cm (c := ?_) | refine L.ar (c := ?_) | refine L.fieldAddr (c := ?_) | refine C.yes (h1 := ?_) | refine L.pickT (k := ?_) | refine L.pickF (k := ?_) | refine L.want (k := ?_) | refine C.block ?_ | refine D.blkNormal ?_ | refine C.skip ?_ | exact D.endsQ | refine QL.fin ?_ | (refine QL.step (v := ?_) (by exact rfl) (by exact rfl) ?_ ?_; rotate_left) | refine L.lenR rl.1 (c := ?_) | refine L.indexR rl.1 hjl (c := ?_) | refine L.indexR rl.1 hlt (c := ?_) | refine L.indexR r1.1 hjl (c := ?_) | refine L.loadF oP pk (c := ?_) | refine L.loadF oL p0 (c := ?_) | refine L.loadF oL k10 (c := ?_) | refine C.quietA (h := ?_))
              exact D.then_ fun a1 w1 hs => ⟨j + 1, hjl, by omega, by rw [hfs]; exact hs.lessE rfl (lk_cons rfl (lk_cons rfl (lk_cons rfl (lk_cons rfl (lk_cons rfl (lk_cons rfl (lk_cons rfl (lk_cons rfl (lk_cons rfl (lk_cons rfl (fun _ _ h => lk_nil h)))))))))))⟩
        · have d1 : cm .lss (j : Int) l.length = false := cm_lo' (by omega)
          have hfd := fnd_of k1 k2 hgo (n := j) (by omega)
          rw [hfd]
          repeat' (first | refine L.neA (b := true) (he := by exact eq9 _ _ _ _ _ _ _ _ _) (c := ?_) | refine C.seq ?_ | refine C.region ?_ | refine L.nil ?_ | refine D.seq ?_ | refine L.move (k := ?_) | refine L.assign (k := ?_) | refine L.cm (c := ?_) | refine L.ar (c := ?_) | refine L.fieldAddr (c := ?_) | refine L.loadA 0 (c := ?_) | refine L.storeV 0 (c := ?_) | refine C.no (h1 := ?_) | refine L.not (c := ?_) | refine D.blkNormal ?_ | refine C.exit ?_ | refine D.thenExit ?_ | refine D.blkExit ?_ | refine C.skip ?_ | exact D.endsQ | refine QL.fin ?_ | refine C.quiet (h := ?_) | (refine QL.step (v := ?_) (by exact rfl) (by exact rfl) ?_ ?_; rotate_left) | refine L.lenR rl.1 (c := ?_) | refine L.indexR rl.1 hlt (c := ?_) | refine L.loadOA oL (i := i * 11 + 1) (ho := by exact rfl) (hi := kil) (hcs := hki) (c := ?_) | refine C.quietA (h := ?_))
          --@5
          exact D.then_ fun a1 w1 hs => ⟨i + 1, hlt, by omega, hs.lessD 1 rfl (lk_cons rfl (lk_cons rfl (lk_cons rfl (lk_cons rfl (lk_cons rfl (fun _ _ h => lk_nil h))))))⟩
    · have c4 : cm .neq x.lab 0 = true := cm_ne hz
      have hsz : x.size = 0 := if_neg hz
      rw [hsz, Nat.add_zero] at htk
      repeat (first | refine C.seq ?_ | refine C.region ?_ | refine L.nil ?_ | refine D.seq ?_ | refine L.move (k := ?_) | refine L.assign (k := ?_) | refine L.cm (c := ?_) | refine L.ar (c := ?_) | refine L.fieldAddr (c := ?_) | refine C.yes (h1 := ?_) | refine C.no (h1 := ?_) | refine C.block ?_ | refine C.exit ?_ | refine D.thenExit ?_ | refine D.blkExit ?_ | refine C.skip ?_ | refine L.lenR rl.1 (c := ?_) | refine L.indexR rl.1 hlt (c := ?_) | refine L.indexR r1.1 hlt (c := ?_) | refine L.loadF oP kp (c := ?_) | refine L.loadF oL k0 (c := ?_) | refine L.loadF oL k10 (c := ?_) | refine L.loadOA oL (i := i * 11 + 1) (ho := by exact rfl) (hi := kil) (hcs := ki) (c := ?_))
      exact D.then_ fun a1 w1 hs => ⟨i + 1, hlt, by omega, by rw [htk]; exact hs.lessE rfl (lk_cons rfl (lk_cons rfl (lk_cons rfl (lk_cons rfl (lk_cons rfl (fun _ _ h => lk_nil h))))))⟩
  · have c1 : cm .lss (i : Int) l.length = false := cm_lo' (by omega)
    have hie : l.take i = l := List.take_of_length_le hge
    rw [hie]
    have c2 : cm .eql (total l : Int) s.size = true := cm_yes (by omega)
    repeat (first | refine C.seq ?_ | refine C.region ?_ | refine L.nil ?_ | refine D.seq ?_ | refine L.move (k := ?_) | refine L.assign (k := ?_) | refine L.cm (c := ?_) | refine C.no (h1 := ?_) | refine L.lenS (c := ?_) | refine C.ret ?_ | refine C.exit ?_ | refine D.thenExit ?_ | refine D.blkExit ?_ | refine L.lenR rl.1 (c := ?_))
    (refine D.ret (vs := [_]) (RV.tmp rfl RV.nil) ?_; intro w' hw; exact Post.mk (is := []) (At.back h1 hw) List.nodup_nil rfl ⟨rfl, rfl⟩)
theorem _root_.Go.Proofs.Ytbcaelhchmoigaa.ljumps_walk (v : Value) (l : List Ln) (w : World) (h : Lines w v l) :
    Calls Try.prog 3 #[v] w fun e w' => e = .returned (.bool true) ∧ Below w.heap.size w w' :=
  (jumps_S l h.2.1 h.1 v).true w h.2.2
end Go.Proofs.Ytbcaelhchmoigaa.Ly
