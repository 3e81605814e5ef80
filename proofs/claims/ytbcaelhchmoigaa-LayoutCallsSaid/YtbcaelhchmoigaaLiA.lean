import Derived.Test.YtbcaelhchmoigaaLyF
import Derived.Test.YtbcaelhchmoigaaDB
set_option maxRecDepth 100000
set_option linter.unusedVariables false
set_option linter.unusedSimpArgs false
namespace Go.Proofs.Ytbcaelhchmoigaa.Ly
open Go Go.RowKit Calm SL
section
variable {P : Program} {ops : Array Oper} {Q : Exit → Act → World → Prop} {s : St} {E : Env} {M : Hp} {rest : List Oper} {d t : Nat} {pos : String} {af : Array Edge}
theorem L.putE (i : Nat) {T K V b k : Nat} {n : Int} {v : Value} {es : List MapEntry} {x y z : Operand} (h1 : intKeys .i64 es = true) [Und P T (.map K V)] [Und P K (.int .i64)] (hx : ev E x = some (.map (some b)) := by exact rfl) (hy : ev E y = some (.int .i64 n) := by exact rfl) (hz : ev E z = some v := by exact rfl)
    (hi : hat M i = some (b, .map es.toArray k) := by exact rfl)
    (kk : ∀ (es' : List MapEntry) k', intKeys .i64 es' = true → (∀ m, lookI es' m = if m = n then some v else lookI es m) → L P ops Q rest s E (hset M i (.map es'.toArray k'))) : L P ops Q (⟨none, .mapUpdate T x y z, t, pos, af, none⟩ :: rest) s E M := by
  have key : ∃ es' k', (∀ w : World, w.heap[b]? = some (.map es.toArray k) → (Instr.mapUpdate T (.map (some b)) (.int .i64 n) v).run P w = .ok () { w with heap := w.heap.setIfInBounds b (.map (es' : List MapEntry).toArray k') }) ∧ intKeys .i64 es' = true ∧ ∀ m, lookI es' m = if m = n then some v else lookI es m := by
    obtain ⟨r, h3, h4⟩ := findNow_int (k := .i64) (n := n) es 0 h1
    cases r with
    | none =>
      have hnone : lookI es n = none := by rw [← h4]; rfl
      refine ⟨es ++ [(⟨.int .i64 n, v, k⟩ : MapEntry)], k + 1, fun w hb => ?_, intKeys_app _ _ _ _ _ h1, fun m => lookI_app _ _ _ _ _ _ h1 hnone⟩
      unfold Instr.mapUpdate
      rw [run_bind_ok und_run]
      simp only
      refine (run_bind_ok (getObj_map hb)).trans ?_
      simp only
      rw [run_bind_ok checkKey_int]
      have hfk : (Instr.findKey K (.int .i64 n) es).run P w = .ok none w := by
        unfold Instr.findKey
        rw [run_bind_ok und_run, h3]; rfl
      refine (run_bind_ok hfk).trans ?_
      have e := setObj_map (P := P) (o := .map (es ++ [(⟨.int .i64 n, v, k⟩ : MapEntry)]).toArray (k + 1)) hb
      have e2 : es.toArray.push (⟨.int .i64 n, v, k⟩ : MapEntry) = (es ++ [(⟨.int .i64 n, v, k⟩ : MapEntry)]).toArray := by simp
      simp only [e2]
      exact e
    | some p =>
      obtain ⟨j, u⟩ := p
      obtain ⟨g1, e0, g2, g3, g4⟩ := lookI_mod (k := .i64) (n := n) (v := v) es 0 j u h1 (by rw [h3, Nat.zero_add])
      refine ⟨es.modify j fun e => { e with key := .int .i64 n, val := v }, k, fun w hb => ?_, g1, g4⟩
      unfold Instr.mapUpdate
      rw [run_bind_ok und_run]
      simp only
      refine (run_bind_ok (getObj_map hb)).trans ?_
      simp only
      rw [run_bind_ok checkKey_int]
      have hfk : (Instr.findKey K (.int .i64 n) es).run P w = .ok (some (j, u)) w := by
        unfold Instr.findKey
        rw [run_bind_ok und_run, h3]; rfl
      refine (run_bind_ok hfk).trans ?_
      simp only
      have hks : (Instr.keyThatStays (((es.toArray[j]?).map (·.key)).getD (.int .i64 n)) (.int .i64 n)).run P w = .ok (.int .i64 n) w := by
        rw [List.getElem?_toArray, g2]
        simp only [Option.map_some, Option.getD_some, g3]
        unfold Instr.keyThatStays
        rw [if_pos sameBits_int]; rfl
      refine (run_bind_ok hks).trans ?_
      rw [List.modify_toArray]
      exact setObj_map hb
  obtain ⟨es', k', hrun, g1, g2⟩ := key
  refine L.act (fun a w hs => ?_) (kk es' k' g1 g2)
  have hb := hs.at_.holds _ (hat_mem hi)
  refine ⟨_, ?_, At.setObj hs.at_ hi⟩
  refine run_skip (s := Instr.mapUpdate T (a.eval x) (a.eval y) (a.eval z)) ?_
  rw [hs.ev hx, hs.ev hy, hs.ev hz]
  exact hrun w hb
end
attribute [local irreducible] SL.L SL.C SL.D SL.N SL.H SL.QL SL.QW SL.QP
def goalI (r : Nat × Ins) : Int := r.1 + r.2.out.size + r.2.imm
def hitN (R : List (Nat × Ins)) (n : Int) : Nat := R.countP (fun r => r.2.jump && goalI r == n)
def numB (R : List (Nat × Ins)) (k : Nat) : Nat := (List.range k).countP (fun (a : Nat) => decide (0 < hitN R (a : Int)))
def labB (R : List (Nat × Ins)) (a : Int) : Int := if 0 < hitN R a then numB R (a.toNat + 1) else 0
def lab1 (R : List (Nat × Ins)) (a : Int) : List Ln := if 0 < hitN R a then [⟨labB R a, ⟨0, 0, 0, 0, 0, 0, 0, 0, 0⟩, 0⟩] else []
def line1 (R : List (Nat × Ins)) (r : Nat × Ins) : Ln := if r.2.jump = true then ⟨0, ⟨r.2.op, r.2.d, r.2.s, r.2.t, r.2.mb, r.2.mi, r.2.ms, r.2.md, 0⟩, labB R (goalI r)⟩ else ⟨0, r.2, 0⟩
def atB (R : List (Nat × Ins)) (len : Nat) (n : Int) : Bool := n == len || R.any (fun r => (r.1 : Int) == n)
def linesM (R : List (Nat × Ins)) (len : Nat) (e : Int) : List Ln × Int :=
  if e ≠ 0 then ([], e) else if R.all (fun r => !r.2.jump || atB R len (goalI r)) = true then (R.flatMap (fun r => lab1 R r.1 ++ [line1 R r]) ++ lab1 R len, 0) else ([], 4)
theorem jump_imm {x : Ins} (h : x.jump = true) : -2147483648 ≤ x.imm ∧ x.imm ≤ 2147483647 := by
  obtain ⟨op, d, s, t, mb, mi, ms, md, imm⟩ := x
  unfold Ins.jump Ins.chk at h
  simp only [Bool.and_eq_true, Bool.or_eq_true, beq_iff_eq] at h
  obtain ⟨(rfl | rfl) | rfl, h⟩ := h
  · rw [chk_30] at h; exact h.1
  · rw [chk_31] at h; exact h.1
  · rw [chk_32] at h; exact h.1
theorem goal_S (a : Nat) (ha : a ≤ 1000000) (x : Ins) (h : x.ok) (hj : x.jump = true) : Ctr Try.prog 34 [.int .i64 (a : Int), insV x] [] tt (is (.int .i64 (goalI (a, x))) []) := by
  have hS := esize_S x h
  have hi := jump_imm hj
  have hz : x.out.size ≤ 11 := out_size' _ _ _ _ _ _ _ _ _
  have c1 : ar .add .i64 (a : Int) x.out.size = ((a + x.out.size : Nat) : Int) := wrap_nat (by omega)
  have c2 : ar .add .i64 ((a + x.out.size : Nat) : Int) x.imm = goalI (a, x) := by
    show IntKind.i64.wrap _ = _
    rw [wrap_64 (by omega)]; unfold goalI; simp
  unfold insV at hS ⊢
  refine Ctr.enter Try.func34 Try.ntmps34 rfl rfl (fun w _ => ?_)
  repeat' (first | refine Af ?_ | refine Ac ?_ | refine Aa ?_ | refine Ae ?_ | refine Ad ?_ | refine Ag ?_ | refine Ao ?_ | refine Ay ?_ | refine Ak 0 ?_ | refine Al 0 ?_ | refine L.box (c := fun _ => ?_) | refine An ?_ | exact D.endsQ | refine QL.fin ?_ | refine C.quiet (h := ?_) | (refine QL.step (v := ?_) (by exact rfl) (by exact rfl) ?_ ?_; rotate_left) | refine Au (hS) ?_)
  (refine D.ret (vs := [_]) (RV.tmp rfl RV.nil) ?_; intro w' hw; exact Post.mk (is := []) hw List.nodup_nil rfl ⟨rfl, rfl⟩)
abbrev lbM (b8 b7 b17 mh mb : Nat) (n : Nat) (y : OS) : Hp :=
  (b8, ob [.map (some mh)] 54) :: (b7, ob [.map (some mb)] 54) :: (b17, ob [osV n y] 22) :: osC 37 y []
def lbl (n : Int) : Ln := ⟨n, ⟨0, 0, 0, 0, 0, 0, 0, 0, 0⟩, 0⟩
set_option maxHeartbeats 2000000 in
theorem label_S (a : Int) (b8 b7 b17 mh mb : Nat) (oh ob_ : Obj) (fh fb : Int → Int) (hH : MapF oh fh) (hB : MapF ob_ fb) (ls : List Ln) (hn : ls.length ≤ 1000000) (y : OS) (hG : osG 11 ls.length (ls.flatMap Ln.vs) y)
    (nh : mh ∉ keys (lbM b8 b7 b17 mh mb ls.length y)) (nb : mb ∉ keys (lbM b8 b7 b17 mh mb ls.length y)) :
    Ctr Try.prog 37 [.int .i64 a, .pointer (some ⟨b8, 0, none⟩), .pointer (some ⟨b17, 0, none⟩), .pointer (some ⟨b7, 0, none⟩)] (lbM b8 b7 b17 mh mb ls.length y) (fun w => w.heap[mh]? = some oh ∧ w.heap[mb]? = some ob_)
      (fun v B => v = shut [] ∧ ∃ y', osG 11 (ls ++ if 0 < fh a then [lbl (fb a)] else []).length ((ls ++ if 0 < fh a then [lbl (fb a)] else []).flatMap Ln.vs) y' ∧ B = lbM b8 b7 b17 mh mb (ls ++ if 0 < fh a then [lbl (fb a)] else []).length y') := by
  refine Ctr.enter Try.func37 Try.ntmps37 rfl rfl (fun w hw => ?_)
  obtain ⟨wh, wb⟩ := hw
  by_cases h0 : 0 < fh a
  · rw [if_pos h0]
    have c1 : cm .gtr (fh a) 0 = true := cm_gt h0
    repeat (first | refine Af ?_ | refine Ac ?_ | refine Aa ?_ | refine Ae ?_ | refine Ad ?_ | refine Ah ?_ | refine Ak 0 ?_ | refine Ak 1 ?_ | refine Ak 2 ?_ | refine As ?_ | refine Am ?_ | refine L.buildS (c := fun _ => ?_) | refine L.lookO hH wh nh (c := ?_) | refine L.lookO hB wb nb (c := ?_))
    rename_i nb
    refine L.appendU [_, _, _, _] (L2 := []) (y := y) (m := ls.length) (u := .slice (some ⟨nb, 0, none⟩) 1 1) (k := 1) (news := Ln.vs (lbl (fb a))) hG rfl (fun w hw => Rd.own (hw.holds _ List.mem_cons_self) (by simp) (Nat.le_refl _) 11 rfl) rfl (by have := ones_vs [lbl (fb a)]; simpa using this) (by unfold maxLen; omega) (by omega) (c := fun y' hG' _ => ?_)
    simp only [List.cons_append, List.nil_append]
    have e : ls.flatMap Ln.vs ++ Ln.vs (lbl (fb a)) = (ls ++ [lbl (fb a)]).flatMap Ln.vs := by simp
    have e2 : ls.length + 1 = (ls ++ [lbl (fb a)]).length := by simp
    rw [e, e2] at hG'
    rw [e2]
    repeat (first | refine L.storeV 3 (hc := osV_cells _ _) (ho := osV_one _ _) (c := ?_) | refine Aa ?_)
    rcases y' with _ | ⟨p1, q1, s1⟩
    · exact D.fin (vs := []) RV.nil (fun w' hw => Post.mk (is := [1, 2, 3]) hw (by decide) rfl ⟨rfl, none, hG', rfl⟩)
    · exact D.fin (vs := []) RV.nil (fun w' hw => Post.mk (is := [1, 2, 3, 4]) hw (by decide) rfl ⟨rfl, some (p1, q1, s1), hG', rfl⟩)
  · rw [if_neg h0, List.append_nil]
    have c1 : cm .gtr (fh a) 0 = false := cm_gt' (by omega)
    repeat (first | refine Af ?_ | refine Ac ?_ | refine Aa ?_ | refine Ae ?_ | refine Ad ?_ | refine Ah ?_ | refine Ak 0 ?_ | refine Aj ?_ | refine Ap ?_ | refine L.lookO hH wh nh (c := ?_))
    exact D.fin (vs := []) RV.nil (fun w' hw => Post.mkD 0 hw rfl ⟨rfl, y, hG, rfl⟩)
end Go.Proofs.Ytbcaelhchmoigaa.Ly
