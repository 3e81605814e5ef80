/- slices.Equal, slices.Clone; limb.Copy, limb.Same; keysmithref12.Same. -/
import Derived.Test.YtkjlgapkcdcmgaaLnA
set_option linter.unusedVariables false
set_option linter.unusedSimpArgs false
namespace Go.Proofs.Ytkjlgapkcdcmgaa
open Go Go.RowKit SL
section
variable {P : Program} {ops : Array Oper} {Q : Exit → Act → World → Prop} {s : St} {E : Env} {M : Hp} {rest : List Oper} {d t : Nat} {pos : String} {af : Array Edge}
/-- A slice against nil. -/
theorem SL.L.eqNilS {T T' : TypeId} {e : Nat} [hu : Und P T (.slice e)] {x : Operand} {p : Option Addr} {n c : Nat} (hn : Nat.blt d s.n = true := by exact rfl) (hx : ev E x = some (.slice p n c) := by exact rfl)
    (k : L P ops Q rest s ((d, .bool p.isNone) :: E) M) : L P ops Q (⟨some d, .binOp .eql T x (.const (.slice none 0 0)) T', t, pos, af, none⟩ :: rest) s E M :=
  L.val hn (fun a w hs => ⟨w, by
    refine run_value ?_
    rw [hs.ev hx]
    show Sem.run P (do eqGuard .eql T x (.const (.slice none 0 0)) (.slice p n c) (.slice none 0 0); binOp .eql T (.slice p n c) (.slice none 0 0)) w = _
    rw [run_bind_ok (x := ()) (w' := w) rfl]
    show Sem.run P (do pure (Value.bool (← Op.equalIn (9999 + 1) T (.slice p n c) (.slice none 0 0)))) w = _
    unfold Op.equalIn
    refine run_bind_ok (x := p.isNone) (w' := w) ?_
    rw [run_bind_ok und_run]
    cases p <;> rfl, hs.at_⟩) k
end
attribute [local irreducible] SL.L SL.C SL.D SL.N SL.H SL.QL SL.QW SL.QP

set_option maxRecDepth 100000 in
theorem eqB_t (x z : Bf) (h : x = z) : eqK [.int .i64, .int .i64, .bool] [.int .i64 x.size, .int .i64 x.kind, .bool x.sec] [.int .i64 z.size, .int .i64 z.kind, .bool z.sec] = some true := by subst h; simp [eqK, eqL]
set_option maxRecDepth 100000 in
theorem eqB_f (x z : Bf) (h : x ≠ z) : eqK [.int .i64, .int .i64, .bool] [.int .i64 x.size, .int .i64 x.kind, .bool x.sec] [.int .i64 z.size, .int .i64 z.kind, .bool z.sec] = some false := by
  have : ¬ (x.size = z.size ∧ x.kind = z.kind ∧ x.sec = z.sec) := fun h2 => h (by cases x; cases z; simp_all)
  simp [eqK, eqL]; grind
set_option maxHeartbeats 4000000 in
theorem equalB_S (v u : Value) (xs ys : List Bf) (hb : xs.length ≤ 1000000) : Ctr Try.prog 69 [v, u] []
    (fun w => Rd w [] v xs.length (xs.flatMap encB) ∧ Rd w [] u ys.length (ys.flatMap encB)) (is (.bool (decide (xs = ys))) []) := by
  refine Ctr.enter Try.func69 Try.ntmps69 rfl rfl (fun w hr => ?_)
  have s1 := hr.1.1
  have s2 := hr.2.1
  by_cases hl : xs.length ≠ ys.length
  · have c0 : cm .neq (xs.length : Int) ys.length = true := cm_ne (by omega)
    repeat' (first | refine C.seq ?_ | refine C.region ?_ | refine L.nil ?_ | refine D.seq ?_ | refine L.move (k := ?_) | refine L.assign (k := ?_) | refine L.cm (c := ?_) | refine C.yes (h1 := ?_) | refine C.ret ?_ | refine D.thenRet ?_ | refine L.lenR s1 (c := ?_) | refine L.lenR s2 (c := ?_))
    (refine D.ret (vs := [_]) (RV.tmp rfl RV.nil) ?_; intro w' hw; exact Post.mk (is := []) hw List.nodup_nil rfl ⟨by rw [decide_eq_false (fun e => hl (by rw [e]))]; rfl, rfl⟩)
  replace hl : xs.length = ys.length := by omega
  have c0 : cm .neq (xs.length : Int) ys.length = false := cm_ne' (by omega)
  repeat' (first | refine C.seq ?_ | refine C.region ?_ | refine L.nil ?_ | refine D.seq ?_ | refine L.move (k := ?_) | refine L.assign (k := ?_) | refine L.cm (c := ?_) | refine C.no (h1 := ?_) | refine C.block ?_ | refine C.skip ?_ | refine L.lenR s1 (c := ?_) | refine L.lenR s2 (c := ?_))
  refine C.loop (α := Nat) (fun i => i ≤ xs.length ∧ xs.take i = ys.take i) (fun i => [(0, v), (1, u), (12, .int .i64 xs.length), (13, .int .i64 i)]) (fun _ => []) (fun i => xs.length - i) 0
    (fun a w hs => hs.lessE rfl (lk_cons rfl (lk_cons rfl (lk_cons rfl (lk_cons rfl (fun _ _ h => lk_nil h)))))) ⟨Nat.zero_le _, rfl⟩ ?_
  rintro i ⟨hi, ht⟩
  rcases Nat.lt_or_ge i xs.length with hlt | hge
  · have c1 : cm .lss (i : Int) xs.length = true := cm_lo (by omega)
    obtain ⟨x, hx⟩ : ∃ x, xs[i]? = some x := ⟨_, List.getElem?_eq_getElem hlt⟩
    obtain ⟨z, hy⟩ : ∃ z, ys[i]? = some z := ⟨_, List.getElem?_eq_getElem (by omega)⟩
    have o1 := hr.1.2 (by omega)
    have o2 := hr.2.2 (by omega)
    have hly : i < ys.length := by omega
    have c2 : ar .add .i64 (i : Int) 1 = ((i + 1 : Nat) : Int) := wrap_nat (by omega)
    obtain ⟨ha1', hal1⟩ := flat_at encB_len hx
    have ha1 := ha1'.trans (encB_ex x)
    obtain ⟨ha2', hal2⟩ := flat_at encB_len hy
    have ha2 := ha2'.trans (encB_ex z)
    by_cases hxy : x = z
    · have c3 := eqB_t x z hxy
      repeat' (first | refine C.seq ?_ | refine C.region ?_ | refine L.nil ?_ | refine D.seq ?_ | refine L.move (k := ?_) | refine L.assign (k := ?_) | refine L.cm (c := ?_) | refine L.ar (c := ?_) | refine C.yes (h1 := ?_) | refine C.no (h1 := ?_) | refine C.block ?_ | refine D.blkNormal ?_ | refine C.skip ?_ | refine L.neA (c := ?_) | exact D.endsQ | refine QL.fin ?_ | refine C.quiet (h := ?_) | (refine QL.step (v := ?_) (by exact rfl) (by exact rfl) ?_ ?_; rotate_left) | refine L.lenR s1 (c := ?_) | refine L.lenR s2 (c := ?_) | refine L.indexR s1 hlt (c := ?_) | refine L.indexR s2 hly (c := ?_) | refine L.loadOA o1 (i := i * 3) (ho := rfl) (hi := hal1) (hcs := ha1) (c := ?_) | refine L.loadOA o2 (i := i * 3) (ho := rfl) (hi := hal2) (hcs := ha2) (c := ?_))
      exact D.then_ fun a1 w1 hs => ⟨i + 1, ⟨by omega, take_eq_succ hx (by rw [hxy]; exact hy) ht⟩, by omega, hs.lessE rfl (lk_cons rfl (lk_cons rfl (lk_cons rfl (lk_cons rfl (fun _ _ h => lk_nil h)))))⟩
    · have c3 := eqB_f x z hxy
      repeat' (first | refine C.seq ?_ | refine C.region ?_ | refine L.nil ?_ | refine D.seq ?_ | refine L.move (k := ?_) | refine L.assign (k := ?_) | refine L.cm (c := ?_) | refine C.yes (h1 := ?_) | refine C.block ?_ | refine C.ret ?_ | refine D.thenRet ?_ | refine D.blkRet ?_ | refine C.skip ?_ | refine L.neA (c := ?_) | exact D.endsQ | refine QL.fin ?_ | refine C.quiet (h := ?_) | (refine QL.step (v := ?_) (by exact rfl) (by exact rfl) ?_ ?_; rotate_left) | refine L.lenR s1 (c := ?_) | refine L.lenR s2 (c := ?_) | refine L.indexR s1 hlt (c := ?_) | refine L.indexR s2 hly (c := ?_) | refine L.loadOA o1 (i := i * 3) (ho := rfl) (hi := hal1) (hcs := ha1) (c := ?_) | refine L.loadOA o2 (i := i * 3) (ho := rfl) (hi := hal2) (hcs := ha2) (c := ?_))
      (refine D.ret (vs := [_]) (RV.tmp rfl RV.nil) ?_; intro w' hw; exact Post.mk (is := []) hw List.nodup_nil rfl ⟨by rw [decide_eq_false (ne_of_at hx hy hxy)]; rfl, rfl⟩)
  · have c1 : cm .lss (i : Int) xs.length = false := cm_lo' (by omega)
    repeat' (first | refine C.seq ?_ | refine C.region ?_ | refine L.nil ?_ | refine D.seq ?_ | refine L.assign (k := ?_) | refine L.cm (c := ?_) | refine C.no (h1 := ?_) | refine C.ret ?_ | refine C.exit ?_ | refine D.thenExit ?_ | refine D.blkExit ?_ | refine L.lenR s1 (c := ?_) | refine L.lenR s2 (c := ?_))
    rw [List.take_of_length_le hge, List.take_of_length_le (by omega)] at ht
    (refine D.ret (vs := [_]) (RV.tmp rfl RV.nil) ?_; intro w' hw; exact Post.mk (is := []) hw List.nodup_nil rfl ⟨by rw [decide_eq_true ht]; rfl, rfl⟩)
set_option maxHeartbeats 1000000 in
theorem cloneB_S (v : Value) (n : Nat) (cs : List Value) (hn : cs.length = n * 3) (h1 : ones cs) (hb : n ≤ 1000000) : Ctr Try.prog 71 [v] [] (fun w => Rd w [] v n cs)
    (fun u B => ∃ y, osG 3 n cs y ∧ u = shut [osV n y] ∧ B = osC 33 y []) := by
  have f1 : 0 + n ≤ maxLen := by unfold maxLen; omega
  refine Ctr.enter Try.func71 Try.ntmps71 rfl rfl (fun w hr => ?_)
  obtain ⟨p, cap, rfl, hcap, hp⟩ := hr.1
  rcases p with _ | p
  · have hn0 : n = 0 := by
      rcases Nat.eq_zero_or_pos n with h | h
      · exact h
      · have := hp h; cases this
    subst hn0
    have hcs : cs = [] := List.eq_nil_of_length_eq_zero (by omega)
    subst hcs
    repeat (first | refine C.seq ?_ | refine C.region ?_ | refine L.nil ?_ | refine D.seq ?_ | refine L.move (k := ?_) | refine L.assign (k := ?_) | refine C.yes (h1 := ?_) | refine C.ret ?_ | refine D.thenRet ?_ | refine L.eqNilS (k := ?_))
    refine D.ret (vs := [osV 0 none]) (RV.tmp rfl RV.nil) ?_
    intro w' hw
    exact Post.mkD 0 hw rfl ⟨none, osG.nil, rfl, rfl⟩
  · repeat (first | refine C.seq ?_ | refine C.region ?_ | refine L.nil ?_ | refine D.seq ?_ | refine L.move (k := ?_) | refine L.assign (k := ?_) | refine C.no (h1 := ?_) | refine C.skip ?_ | refine L.eqNilS (k := ?_))
    refine L.build0 (c := ?_)
    intro y0 hG0
    repeat (first | refine L.move (k := ?_))
    refine L.appendU [] hG0 (by exact rfl) (fun w hw => hr.at hw) hn h1 f1 (by omega) (c := ?_)
    intro y hG _
    rw [List.nil_append] at hG
    rw [List.nil_append]
    repeat (first | refine L.nil ?_ | refine D.seq ?_ | refine L.assign (k := ?_) | refine C.ret ?_)
    refine D.ret (vs := [osV (0 + n) y]) (RV.tmp rfl RV.nil) ?_
    intro w' hw
    rw [Nat.zero_add] at hG ⊢
    exact Post.mkD 0 hw rfl ⟨y, hG, rfl, rfl⟩

set_option maxRecDepth 100000 in
theorem eqO_t (x z : Lop) (h : x = z) : eqK [.int .i64, .int .i64, .int .i64, .int .i64, .int .i64, .int .i64, .int .i64, .int .u64] [.int .i64 x.k, .int .i64 x.d, .int .i64 x.e, .int .i64 x.a, .int .i64 x.b, .int .i64 x.c, .int .i64 x.buf, .int .u64 x.imm] [.int .i64 z.k, .int .i64 z.d, .int .i64 z.e, .int .i64 z.a, .int .i64 z.b, .int .i64 z.c, .int .i64 z.buf, .int .u64 z.imm] = some true := by subst h; simp [eqK, eqL]
set_option maxRecDepth 100000 in
theorem eqO_f (x z : Lop) (h : x ≠ z) : eqK [.int .i64, .int .i64, .int .i64, .int .i64, .int .i64, .int .i64, .int .i64, .int .u64] [.int .i64 x.k, .int .i64 x.d, .int .i64 x.e, .int .i64 x.a, .int .i64 x.b, .int .i64 x.c, .int .i64 x.buf, .int .u64 x.imm] [.int .i64 z.k, .int .i64 z.d, .int .i64 z.e, .int .i64 z.a, .int .i64 z.b, .int .i64 z.c, .int .i64 z.buf, .int .u64 z.imm] = some false := by
  have : ¬ (x.k = z.k ∧ x.d = z.d ∧ x.e = z.e ∧ x.a = z.a ∧ x.b = z.b ∧ x.c = z.c ∧ x.buf = z.buf ∧ x.imm = z.imm) := fun h2 => h (by cases x; cases z; simp_all)
  simp [eqK, eqL]; grind
set_option maxHeartbeats 4000000 in
theorem equalO_S (v u : Value) (xs ys : List Lop) (hb : xs.length ≤ 1000000) : Ctr Try.prog 70 [v, u] []
    (fun w => Rd w [] v xs.length (xs.flatMap encO) ∧ Rd w [] u ys.length (ys.flatMap encO)) (is (.bool (decide (xs = ys))) []) := by
  refine Ctr.enter Try.func70 Try.ntmps70 rfl rfl (fun w hr => ?_)
  have s1 := hr.1.1
  have s2 := hr.2.1
  by_cases hl : xs.length ≠ ys.length
  · have c0 : cm .neq (xs.length : Int) ys.length = true := cm_ne (by omega)
    repeat' (first | refine C.seq ?_ | refine C.region ?_ | refine L.nil ?_ | refine D.seq ?_ | refine L.move (k := ?_) | refine L.assign (k := ?_) | refine L.cm (c := ?_) | refine C.yes (h1 := ?_) | refine C.ret ?_ | refine D.thenRet ?_ | refine L.lenR s1 (c := ?_) | refine L.lenR s2 (c := ?_))
    (refine D.ret (vs := [_]) (RV.tmp rfl RV.nil) ?_; intro w' hw; exact Post.mk (is := []) hw List.nodup_nil rfl ⟨by rw [decide_eq_false (fun e => hl (by rw [e]))]; rfl, rfl⟩)
  replace hl : xs.length = ys.length := by omega
  have c0 : cm .neq (xs.length : Int) ys.length = false := cm_ne' (by omega)
  repeat' (first | refine C.seq ?_ | refine C.region ?_ | refine L.nil ?_ | refine D.seq ?_ | refine L.move (k := ?_) | refine L.assign (k := ?_) | refine L.cm (c := ?_) | refine C.no (h1 := ?_) | refine C.block ?_ | refine C.skip ?_ | refine L.lenR s1 (c := ?_) | refine L.lenR s2 (c := ?_))
  refine C.loop (α := Nat) (fun i => i ≤ xs.length ∧ xs.take i = ys.take i) (fun i => [(0, v), (1, u), (12, .int .i64 xs.length), (13, .int .i64 i)]) (fun _ => []) (fun i => xs.length - i) 0
    (fun a w hs => hs.lessE rfl (lk_cons rfl (lk_cons rfl (lk_cons rfl (lk_cons rfl (fun _ _ h => lk_nil h)))))) ⟨Nat.zero_le _, rfl⟩ ?_
  rintro i ⟨hi, ht⟩
  rcases Nat.lt_or_ge i xs.length with hlt | hge
  · have c1 : cm .lss (i : Int) xs.length = true := cm_lo (by omega)
    obtain ⟨x, hx⟩ : ∃ x, xs[i]? = some x := ⟨_, List.getElem?_eq_getElem hlt⟩
    obtain ⟨z, hy⟩ : ∃ z, ys[i]? = some z := ⟨_, List.getElem?_eq_getElem (by omega)⟩
    have o1 := hr.1.2 (by omega)
    have o2 := hr.2.2 (by omega)
    have hly : i < ys.length := by omega
    have c2 : ar .add .i64 (i : Int) 1 = ((i + 1 : Nat) : Int) := wrap_nat (by omega)
    obtain ⟨ha1', hal1⟩ := flat_at encO_len hx
    have ha1 := ha1'.trans (encO_ex x)
    obtain ⟨ha2', hal2⟩ := flat_at encO_len hy
    have ha2 := ha2'.trans (encO_ex z)
    by_cases hxy : x = z
    · have c3 := eqO_t x z hxy
      repeat' (first | refine C.seq ?_ | refine C.region ?_ | refine L.nil ?_ | refine D.seq ?_ | refine L.move (k := ?_) | refine L.assign (k := ?_) | refine L.cm (c := ?_) | refine L.ar (c := ?_) | refine C.yes (h1 := ?_) | refine C.no (h1 := ?_) | refine C.block ?_ | refine D.blkNormal ?_ | refine C.skip ?_ | refine L.neA (c := ?_) | exact D.endsQ | refine QL.fin ?_ | refine C.quiet (h := ?_) | (refine QL.step (v := ?_) (by exact rfl) (by exact rfl) ?_ ?_; rotate_left) | refine L.lenR s1 (c := ?_) | refine L.lenR s2 (c := ?_) | refine L.indexR s1 hlt (c := ?_) | refine L.indexR s2 hly (c := ?_) | refine L.loadOA o1 (i := i * 8) (ho := rfl) (hi := hal1) (hcs := ha1) (c := ?_) | refine L.loadOA o2 (i := i * 8) (ho := rfl) (hi := hal2) (hcs := ha2) (c := ?_))
      exact D.then_ fun a1 w1 hs => ⟨i + 1, ⟨by omega, take_eq_succ hx (by rw [hxy]; exact hy) ht⟩, by omega, hs.lessE rfl (lk_cons rfl (lk_cons rfl (lk_cons rfl (lk_cons rfl (fun _ _ h => lk_nil h)))))⟩
    · have c3 := eqO_f x z hxy
      repeat' (first | refine C.seq ?_ | refine C.region ?_ | refine L.nil ?_ | refine D.seq ?_ | refine L.move (k := ?_) | refine L.assign (k := ?_) | refine L.cm (c := ?_) | refine C.yes (h1 := ?_) | refine C.block ?_ | refine C.ret ?_ | refine D.thenRet ?_ | refine D.blkRet ?_ | refine C.skip ?_ | refine L.neA (c := ?_) | exact D.endsQ | refine QL.fin ?_ | refine C.quiet (h := ?_) | (refine QL.step (v := ?_) (by exact rfl) (by exact rfl) ?_ ?_; rotate_left) | refine L.lenR s1 (c := ?_) | refine L.lenR s2 (c := ?_) | refine L.indexR s1 hlt (c := ?_) | refine L.indexR s2 hly (c := ?_) | refine L.loadOA o1 (i := i * 8) (ho := rfl) (hi := hal1) (hcs := ha1) (c := ?_) | refine L.loadOA o2 (i := i * 8) (ho := rfl) (hi := hal2) (hcs := ha2) (c := ?_))
      (refine D.ret (vs := [_]) (RV.tmp rfl RV.nil) ?_; intro w' hw; exact Post.mk (is := []) hw List.nodup_nil rfl ⟨by rw [decide_eq_false (ne_of_at hx hy hxy)]; rfl, rfl⟩)
  · have c1 : cm .lss (i : Int) xs.length = false := cm_lo' (by omega)
    repeat' (first | refine C.seq ?_ | refine C.region ?_ | refine L.nil ?_ | refine D.seq ?_ | refine L.assign (k := ?_) | refine L.cm (c := ?_) | refine C.no (h1 := ?_) | refine C.ret ?_ | refine C.exit ?_ | refine D.thenExit ?_ | refine D.blkExit ?_ | refine L.lenR s1 (c := ?_) | refine L.lenR s2 (c := ?_))
    rw [List.take_of_length_le hge, List.take_of_length_le (by omega)] at ht
    (refine D.ret (vs := [_]) (RV.tmp rfl RV.nil) ?_; intro w' hw; exact Post.mk (is := []) hw List.nodup_nil rfl ⟨by rw [decide_eq_true ht]; rfl, rfl⟩)
set_option maxHeartbeats 1000000 in
theorem cloneO_S (v : Value) (n : Nat) (cs : List Value) (hn : cs.length = n * 8) (h1 : ones cs) (hb : n ≤ 1000000) : Ctr Try.prog 72 [v] [] (fun w => Rd w [] v n cs)
    (fun u B => ∃ y, osG 8 n cs y ∧ u = shut [osV n y] ∧ B = osC 39 y []) := by
  have f1 : 0 + n ≤ maxLen := by unfold maxLen; omega
  refine Ctr.enter Try.func72 Try.ntmps72 rfl rfl (fun w hr => ?_)
  obtain ⟨p, cap, rfl, hcap, hp⟩ := hr.1
  rcases p with _ | p
  · have hn0 : n = 0 := by
      rcases Nat.eq_zero_or_pos n with h | h
      · exact h
      · have := hp h; cases this
    subst hn0
    have hcs : cs = [] := List.eq_nil_of_length_eq_zero (by omega)
    subst hcs
    repeat (first | refine C.seq ?_ | refine C.region ?_ | refine L.nil ?_ | refine D.seq ?_ | refine L.move (k := ?_) | refine L.assign (k := ?_) | refine C.yes (h1 := ?_) | refine C.ret ?_ | refine D.thenRet ?_ | refine L.eqNilS (k := ?_))
    refine D.ret (vs := [osV 0 none]) (RV.tmp rfl RV.nil) ?_
    intro w' hw
    exact Post.mkD 0 hw rfl ⟨none, osG.nil, rfl, rfl⟩
  · repeat (first | refine C.seq ?_ | refine C.region ?_ | refine L.nil ?_ | refine D.seq ?_ | refine L.move (k := ?_) | refine L.assign (k := ?_) | refine C.no (h1 := ?_) | refine C.skip ?_ | refine L.eqNilS (k := ?_))
    refine L.build0 (c := ?_)
    intro y0 hG0
    repeat (first | refine L.move (k := ?_))
    refine L.appendU [] hG0 (by exact rfl) (fun w hw => hr.at hw) hn h1 f1 (by omega) (c := ?_)
    intro y hG _
    rw [List.nil_append] at hG
    rw [List.nil_append]
    repeat (first | refine L.nil ?_ | refine D.seq ?_ | refine L.assign (k := ?_) | refine C.ret ?_)
    refine D.ret (vs := [osV (0 + n) y]) (RV.tmp rfl RV.nil) ?_
    intro w' hw
    rw [Nat.zero_add] at hG ⊢
    exact Post.mkD 0 hw rfl ⟨y, hG, rfl, rfl⟩

set_option maxHeartbeats 4000000 in
theorem lcopy_S (r : Int) (vb vo : Value) (nb no : Nat) (cb co : List Value) (hb : cb.length = nb * 3) (ho : co.length = no * 8) (h1 : ones cb) (h2 : ones co) (lb : nb ≤ 1000000) (lo : no ≤ 1000000) (sb : SlV vb nb) (so : SlV vo no) :
    Ctr Try.prog 46 [progV r vb vo] [] (fun w => Rd w [] vb nb cb ∧ Rd w [] vo no co)
      (fun u B => ∃ y1 y2, osG 3 nb cb y1 ∧ osG 8 no co y2 ∧ u = shut [progV r (osV nb y1) (osV no y2)] ∧ B = osC 33 y1 (osC 39 y2 [])) := by
  refine Ctr.enter Try.func46 Try.ntmps46 rfl rfl (fun w hr => ?_)
  obtain ⟨hrb, hro⟩ := hr
  unfold progV
  repeat (first | refine C.seq ?_ | refine C.region ?_ | refine L.nil ?_ | refine D.seq ?_ | refine L.alloc (c := fun _ => ?_) | refine L.box (c := fun _ => ?_))
  rename_i b1 b2
  refine C.make (M0 := [(b2, ob [.int .i64 0, .slice none 0 0, .slice none 0 0] 25)]) (by kernel_rfl) (h := ?_)
  (refine QP.quiet (v := ?_) (by exact rfl) (by exact rfl) (fun w1 g1 => ?_) ?_; rotate_left); repeat (first | refine L.nil ?_ | refine L.fieldAddr (c := ?_) | exact D.endsQ)
  (refine QP.quietI (v := ?_) [7] [(b1, ob [.int .i64 r, vb, vo] 25)] (by exact rfl) (by exact rfl) (fun w1 g1 => ?_) ?_; rotate_left); simp only [List.take_succ_cons, List.take_zero, List.take_nil, List.cons_append, List.nil_append]; repeat (first | refine L.nil ?_ | refine L.load1 0 (c := ?_) | exact D.endsQ)
  refine QP.mk0 [] (fun F B => ∃ y, osG 3 nb cb y ∧ F = [(5, osV nb y)] ∧ B = osC 33 y []) (h := fun w1 g1 => ?_) (k := ?_)
  · refine L.callP [] (cloneB_S vb nb cb hb h1 lb) (hpre := fun w' hw => (hrb.base g1 _ (fun _ h => h)).at hw) (k := ?_)
    rintro v B ⟨y, hG, rfl, rfl⟩
    rw [hdrop_nil]
    refine L.nil ?_
    exact D.endsP1 (osC 33 y []) (hR := ⟨y, hG, rfl, rfl⟩)
  (refine QP.quiet (v := ?_) (by exact rfl) (by exact rfl) (fun w1 g1 => ?_) ?_; rotate_left); repeat (first | refine L.nil ?_ | refine L.fieldAddr (c := ?_) | exact D.endsQ)
  (refine QP.quietI (v := ?_) [7] [(b1, ob [.int .i64 r, vb, vo] 25)] (by exact rfl) (by exact rfl) (fun w1 g1 => ?_) ?_; rotate_left); simp only [List.take_succ_cons, List.take_zero, List.take_nil, List.cons_append, List.nil_append]; repeat (first | refine L.nil ?_ | refine L.load1 0 (c := ?_) | exact D.endsQ)
  refine QP.mk0 [] (fun F B => ∃ y, osG 8 no co y ∧ F = [(8, osV no y)] ∧ B = osC 39 y []) (h := fun w1 g1 => ?_) (k := ?_)
  · refine L.callP [] (cloneO_S vo no co ho h2 lo) (hpre := fun w' hw => (hro.base g1 _ (fun _ h => h)).at hw) (k := ?_)
    rintro v B ⟨y, hG, rfl, rfl⟩
    rw [hdrop_nil]
    refine L.nil ?_
    exact D.endsP1 (osC 39 y []) (hR := ⟨y, hG, rfl, rfl⟩)
  (refine QP.quiet (v := ?_) (by exact rfl) (by exact rfl) (fun w1 g1 => ?_) ?_; rotate_left); repeat (first | refine L.nil ?_ | refine L.fieldAddr (c := ?_) | exact D.endsQ)
  refine QP.mk1 2 [(b1, ob [.int .i64 r, vb, vo] 25)] (fun F B => ∃ y, osG 3 nb cb y ∧ F = [] ∧ B = (b1, ob [.int .i64 r, osV nb y, vo] 25) :: osC 33 y []) (h := ?_) (k := ?_)
  · rintro F B ⟨y, hG, rfl, rfl⟩ w1 g1
    refine L.perm (M' := (b1, ob [.int .i64 r, vb, vo] 25) :: osC 33 y [(b2, ob [.int .i64 0, .slice none 0 0, .slice none 0 0] 25)]) (by rw [osC_app]; exact List.perm_middle.symm) ?_
    refine L.storeV 0 (hc := osV_cells _ _) (ho := osV_one _ _) (c := ?_)
    refine L.nil ?_
    exact D.endsP0 [] ((b1, ob [.int .i64 r, osV nb y, vo] 25) :: osC 33 y []) (hM := by rw [osC_app]; rfl) (hF := fun _ _ h => by cases h) (hR := ⟨y, hG, rfl, rfl⟩)
  (refine QP.quiet (v := ?_) (by exact rfl) (by exact rfl) (fun w1 g1 => ?_) ?_; rotate_left); repeat (first | refine L.nil ?_ | refine L.fieldAddr (c := ?_) | exact D.endsQ)
  refine QP.mk2 7 5 [] (fun F B => ∃ y1 y2, osG 3 nb cb y1 ∧ osG 8 no co y2 ∧ F = [] ∧ B = (b1, ob [.int .i64 r, osV nb y1, osV no y2] 25) :: osC 33 y1 (osC 39 y2 [])) (h := ?_) (k := ?_)
  · rintro F1 B1 F2 B2 ⟨y1, hG1, rfl, rfl⟩ ⟨y2, hG2, rfl, rfl⟩ w1 g1
    refine L.perm (M' := (b1, ob [.int .i64 r, osV nb y1, vo] 25) :: osC 33 y1 (osC 39 y2 [(b2, ob [.int .i64 0, .slice none 0 0, .slice none 0 0] 25)])) (by rw [osC_app 33 y1, osC_app 39 y2 [(b2, _)]]; simp) ?_
    refine L.storeV 0 (hc := osV_cells _ _) (ho := osV_one _ _) (c := ?_)
    refine L.nil ?_
    exact D.endsP0 [] ((b1, ob [.int .i64 r, osV nb y1, osV no y2] 25) :: osC 33 y1 (osC 39 y2 [])) (hM := by rw [osC_app 33 y1, osC_app 39 y2 [(b2, _)], osC_app 33 y1 (osC _ _ [])]; simp) (hF := fun _ _ h => by cases h) (hR := ⟨y1, y2, hG1, hG2, rfl, rfl⟩)
  refine QP.fin1 [none, none, some [], none, none, some [], none, some [2], none, some [7, 5]] 9 (nds := [[], [7], [], [], [7], [], [], [], [], []]) (hM := List.Perm.swap _ _ _) (k := ?_)
  rintro F B ⟨y1, y2, hG1, hG2, rfl, rfl⟩
  refine D.perm (M' := (b1, ob [.int .i64 r, osV nb y1, osV no y2] 25) :: (b2, ob [.int .i64 0, .slice none 0 0, .slice none 0 0] 25) :: osC 33 y1 (osC 39 y2 [])) ?_ ?_
  · rw [List.cons_append]
    exact List.Perm.cons _ (List.perm_append_singleton _ _).symm
  rw [List.nil_append]
  repeat (first | refine C.seq ?_ | refine C.region ?_ | refine D.seq ?_ | refine L.loadA 0 (c := ?_))
  refine L.storeV 1 (vs := [.int .i64 r, osV nb y1, osV no y2]) (ho := by simp only [List.all_cons, List.all_nil, oneB_os, Bool.and_true]; rfl) (c := ?_)
  repeat (first | refine L.nil ?_ | refine D.seq ?_ | refine C.ret ?_)
  refine D.ret (vs := [.agg #[.int .i64 r, osV nb y1, osV no y2]]) (RV.cellA 1 rfl rfl rfl rfl rfl RV.nil) ?_
  intro w' hw
  exact Post.mkD 2 hw rfl ⟨y1, y2, hG1, hG2, rfl, rfl⟩


theorem cmE_yes {a b : Int} (h : a = b) : cm .eql a b = true := cm_yes h
set_option maxHeartbeats 4000000 in
theorem lsame_S (r q : Int) (vb vo ub uo : Value) (bs cs : List Bf) (os ps : List Lop) (hbl : bs.length ≤ 1000000) (hol : os.length ≤ 1000000) : Ctr Try.prog 45 [progV r vb vo, progV q ub uo] []
    (fun w => (Rd w [] vb bs.length (bs.flatMap encB) ∧ Rd w [] vo os.length (os.flatMap encO)) ∧ (Rd w [] ub cs.length (cs.flatMap encB) ∧ Rd w [] uo ps.length (ps.flatMap encO))) (is (.bool (decide (r = q ∧ bs = cs ∧ os = ps))) []) := by
  refine Ctr.enter Try.func45 Try.ntmps45 rfl rfl (fun w hr => ?_)
  have kB := equalB_S vb ub bs cs hbl
  have kO := equalO_S vo uo os ps hol
  unfold progV
  by_cases hr0 : r = q
  · have c1 : cm .eql r q = true := cm_yes hr0
    by_cases hb : bs = cs
    · rw [decide_eq_true hb] at kB
      by_cases ho : os = ps
      · rw [decide_eq_true ho] at kO
        repeat' (first | refine C.seq ?_ | refine C.region ?_ | refine L.nil ?_ | refine D.seq ?_ | refine L.move (k := ?_) | refine L.assign (k := ?_) | refine L.cm (c := ?_) | refine L.fieldAddr (c := ?_) | refine L.load1 0 (c := ?_) | refine L.load1 1 (c := ?_) | refine L.box (c := fun _ => ?_) | refine L.pickT (k := ?_) | refine L.want (k := ?_) | refine C.ret ?_ | refine L.callQ kB (hpre := fun w hw => ⟨hr.1.1.at hw, hr.2.1.at hw⟩) (k := ?_) | refine L.callQ kO (hpre := fun w hw => ⟨hr.1.2.at hw, hr.2.2.at hw⟩) (k := ?_))
        (refine D.ret (vs := [_]) (RV.tmp rfl RV.nil) ?_; intro w' hw; exact Post.mkD 2 hw rfl ⟨by rw [decide_eq_true ⟨hr0, hb, ho⟩]; rfl, rfl⟩)
      · rw [decide_eq_false ho] at kO
        repeat' (first | refine C.seq ?_ | refine C.region ?_ | refine L.nil ?_ | refine D.seq ?_ | refine L.move (k := ?_) | refine L.assign (k := ?_) | refine L.cm (c := ?_) | refine L.fieldAddr (c := ?_) | refine L.load1 0 (c := ?_) | refine L.load1 1 (c := ?_) | refine L.box (c := fun _ => ?_) | refine L.pickT (k := ?_) | refine L.want (k := ?_) | refine C.ret ?_ | refine L.callQ kB (hpre := fun w hw => ⟨hr.1.1.at hw, hr.2.1.at hw⟩) (k := ?_) | refine L.callQ kO (hpre := fun w hw => ⟨hr.1.2.at hw, hr.2.2.at hw⟩) (k := ?_))
        (refine D.ret (vs := [_]) (RV.tmp rfl RV.nil) ?_; intro w' hw; exact Post.mkD 2 hw rfl ⟨by rw [decide_eq_false (fun e => ho e.2.2)]; rfl, rfl⟩)
    · rw [decide_eq_false hb] at kB
      repeat' (first | refine C.seq ?_ | refine C.region ?_ | refine L.nil ?_ | refine D.seq ?_ | refine L.move (k := ?_) | refine L.assign (k := ?_) | refine L.cm (c := ?_) | refine L.fieldAddr (c := ?_) | refine L.load1 0 (c := ?_) | refine L.load1 1 (c := ?_) | refine L.box (c := fun _ => ?_) | refine L.pickT (k := ?_) | refine L.pickF (k := ?_) | refine L.want (k := ?_) | refine L.pass (k := ?_) | refine C.ret ?_ | refine L.callQ kB (hpre := fun w hw => ⟨hr.1.1.at hw, hr.2.1.at hw⟩) (k := ?_) | refine L.callQ kO (hpre := fun w hw => ⟨hr.1.2.at hw, hr.2.2.at hw⟩) (k := ?_))
      (refine D.ret (vs := [_]) (RV.tmp rfl RV.nil) ?_; intro w' hw; exact Post.mkD 2 hw rfl ⟨by rw [decide_eq_false (fun e => hb e.2.1)]; rfl, rfl⟩)
  · have c1 : cm .eql r q = false := cm_no hr0
    repeat' (first | refine C.seq ?_ | refine C.region ?_ | refine L.nil ?_ | refine D.seq ?_ | refine L.move (k := ?_) | refine L.assign (k := ?_) | refine L.cm (c := ?_) | refine L.fieldAddr (c := ?_) | refine L.load1 0 (c := ?_) | refine L.load1 1 (c := ?_) | refine L.box (c := fun _ => ?_) | refine L.pickF (k := ?_) | refine L.pass (k := ?_) | refine C.ret ?_ | refine L.callQ kB (hpre := fun w hw => ⟨hr.1.1.at hw, hr.2.1.at hw⟩) (k := ?_) | refine L.callQ kO (hpre := fun w hw => ⟨hr.1.2.at hw, hr.2.2.at hw⟩) (k := ?_))
    (refine D.ret (vs := [_]) (RV.tmp rfl RV.nil) ?_; intro w' hw; exact Post.mkD 2 hw rfl ⟨by rw [decide_eq_false (fun e => hr0 e.1)]; rfl, rfl⟩)
set_option maxHeartbeats 8000000 in
theorem same12_S (r q : Int) (vb vo ub uo : Value) (bs cs : List Bf) (os ps : List Lop) (hbl : bs.length ≤ 1000000) (hol : os.length ≤ 1000000) : Ctr Try.prog 48 [progV r vb vo, progV q ub uo] []
    (fun w => (Rd w [] vb bs.length (bs.flatMap encB) ∧ Rd w [] vo os.length (os.flatMap encO)) ∧ (Rd w [] ub cs.length (cs.flatMap encB) ∧ Rd w [] uo ps.length (ps.flatMap encO))) (is (.bool (decide (r = q ∧ bs = cs ∧ os = ps))) []) := by
  refine Ctr.enter Try.func48 Try.ntmps48 rfl rfl (fun w hr => ?_)
  have s1 := hr.1.1.1
  have s2 := hr.2.1.1
  have t1 := hr.1.2.1
  have t2 := hr.2.2.1
  unfold progV
  by_cases hr0 : r ≠ q
  · have c1 : cm .neq r q = true := cm_ne hr0
    repeat' (first | refine C.seq ?_ | refine C.region ?_ | refine L.nil ?_ | refine D.seq ?_ | refine L.move (k := ?_) | refine L.assign (k := ?_) | refine L.cm (c := ?_) | refine L.fieldAddr (c := ?_) | refine L.load1 0 (c := ?_) | refine L.load1 1 (c := ?_) | refine L.box (c := fun _ => ?_) | refine C.yes (h1 := ?_) | refine L.pickT (k := ?_) | refine L.pass (k := ?_) | refine C.ret ?_ | refine D.thenRet ?_)
    (refine D.ret (vs := [_]) (RV.tmp rfl RV.nil) ?_; intro w' hw; exact Post.mkD 2 hw rfl ⟨by rw [decide_eq_false (fun e => hr0 e.1)]; rfl, rfl⟩)
  replace hr0 : r = q := by omega
  have c1 : cm .neq r q = false := cm_ne' hr0
  by_cases hl : bs.length ≠ cs.length
  · have c2 : cm .neq (bs.length : Int) cs.length = true := cm_ne (by omega)
    repeat' (first | refine C.seq ?_ | refine C.region ?_ | refine L.nil ?_ | refine D.seq ?_ | refine L.move (k := ?_) | refine L.assign (k := ?_) | refine L.cm (c := ?_) | refine L.fieldAddr (c := ?_) | refine L.load1 0 (c := ?_) | refine L.load1 1 (c := ?_) | refine L.box (c := fun _ => ?_) | refine C.yes (h1 := ?_) | refine L.pickT (k := ?_) | refine L.pickF (k := ?_) | refine L.want (k := ?_) | refine L.pass (k := ?_) | refine C.ret ?_ | refine D.thenRet ?_ | refine L.lenR s1 (c := ?_) | refine L.lenR s2 (c := ?_))
    (refine D.ret (vs := [_]) (RV.tmp rfl RV.nil) ?_; intro w' hw; exact Post.mkD 2 hw rfl ⟨by rw [decide_eq_false (fun e => hl (by rw [e.2.1]))]; rfl, rfl⟩)
  replace hl : bs.length = cs.length := by omega
  have c2 : cm .neq (bs.length : Int) cs.length = false := cm_ne' (by omega)
  by_cases hm : os.length ≠ ps.length
  · have c3 : cm .neq (os.length : Int) ps.length = true := cm_ne (by omega)
    repeat' (first | refine C.seq ?_ | refine C.region ?_ | refine L.nil ?_ | refine D.seq ?_ | refine L.move (k := ?_) | refine L.assign (k := ?_) | refine L.cm (c := ?_) | refine L.fieldAddr (c := ?_) | refine L.load1 0 (c := ?_) | refine L.load1 1 (c := ?_) | refine L.box (c := fun _ => ?_) | refine C.yes (h1 := ?_) | refine L.pickF (k := ?_) | refine L.want (k := ?_) | refine C.ret ?_ | refine D.thenRet ?_ | refine L.lenR s1 (c := ?_) | refine L.lenR s2 (c := ?_) | refine L.lenR t1 (c := ?_) | refine L.lenR t2 (c := ?_))
    (refine D.ret (vs := [_]) (RV.tmp rfl RV.nil) ?_; intro w' hw; exact Post.mkD 2 hw rfl ⟨by rw [decide_eq_false (fun e => hm (by rw [e.2.2]))]; rfl, rfl⟩)
  replace hm : os.length = ps.length := by omega
  have c3 : cm .neq (os.length : Int) ps.length = false := cm_ne' (by omega)
  repeat' (first | refine C.seq ?_ | refine C.region ?_ | refine L.nil ?_ | refine D.seq ?_ | refine L.move (k := ?_) | refine L.assign (k := ?_) | refine L.cm (c := ?_) | refine L.fieldAddr (c := ?_) | refine L.load1 0 (c := ?_) | refine L.load1 1 (c := ?_) | refine L.box (c := fun _ => ?_) | refine C.no (h1 := ?_) | refine L.pickF (k := ?_) | refine L.want (k := ?_) | refine C.block ?_ | refine C.skip ?_ | refine L.lenR s1 (c := ?_) | refine L.lenR s2 (c := ?_) | refine L.lenR t1 (c := ?_) | refine L.lenR t2 (c := ?_))
  rename_i p1 p2
  refine C.loop (α := Nat) (fun i => i ≤ bs.length ∧ bs.take i = cs.take i) (fun i => [(2, .pointer (some ⟨p1, 0, none⟩)), (3, .pointer (some ⟨p2, 0, none⟩)), (5, .int .i64 i)]) (fun _ => [(p2, ob [.int .i64 q, ub, uo] 25), (p1, ob [.int .i64 r, vb, vo] 25)]) (fun i => bs.length - i) 0
    (fun a w hs => hs.lessE rfl (lk_cons rfl (lk_cons rfl (lk_cons rfl (fun _ _ h => lk_nil h))))) ⟨Nat.zero_le _, rfl⟩ ?_
  rintro i ⟨hi, ht⟩
  rcases Nat.lt_or_ge i bs.length with hlt | hge
  · have c4 : cm .lss (i : Int) bs.length = true := cm_lo (by omega)
    obtain ⟨x, hx⟩ : ∃ x, bs[i]? = some x := ⟨_, List.getElem?_eq_getElem hlt⟩
    obtain ⟨z, hy⟩ : ∃ z, cs[i]? = some z := ⟨_, List.getElem?_eq_getElem (by omega)⟩
    have o1 := hr.1.1.2 (by omega)
    have o2 := hr.2.1.2 (by omega)
    have hly : i < cs.length := by omega
    have c5 : ar .add .i64 (i : Int) 1 = ((i + 1 : Nat) : Int) := wrap_nat (by omega)
    obtain ⟨ha1', hal1⟩ := flat_at encB_len hx
    have ha1 := ha1'.trans (encB_ex x)
    obtain ⟨ha2', hal2⟩ := flat_at encB_len hy
    have ha2 := ha2'.trans (encB_ex z)
    by_cases hxy : x = z
    · have c6 := eqB_t x z hxy
      repeat' (first | refine C.seq ?_ | refine C.region ?_ | refine L.nil ?_ | refine D.seq ?_ | refine L.move (k := ?_) | refine L.assign (k := ?_) | refine L.cm (c := ?_) | refine L.ar (c := ?_) | refine L.fieldAddr (c := ?_) | refine L.load1 0 (c := ?_) | refine L.load1 1 (c := ?_) | refine C.yes (h1 := ?_) | refine C.no (h1 := ?_) | refine C.block ?_ | refine D.blkNormal ?_ | refine C.skip ?_ | refine L.neA (c := ?_) | exact D.endsQ | refine QL.fin ?_ | refine C.quiet (h := ?_) | (refine QL.step (v := ?_) (by exact rfl) (by exact rfl) ?_ ?_; rotate_left) | refine L.lenR s1 (c := ?_) | refine L.indexR s1 hlt (c := ?_) | refine L.indexR s2 hly (c := ?_) | refine L.loadOA o1 (i := i * 3) (ho := rfl) (hi := hal1) (hcs := ha1) (c := ?_) | refine L.loadOA o2 (i := i * 3) (ho := rfl) (hi := hal2) (hcs := ha2) (c := ?_))
      exact D.then_ fun a1 w1 hs => ⟨i + 1, ⟨by omega, take_eq_succ hx (by rw [hxy]; exact hy) ht⟩, by omega, hs.lessE rfl (lk_cons rfl (lk_cons rfl (lk_cons rfl (fun _ _ h => lk_nil h))))⟩
    · have c6 := eqB_f x z hxy
      repeat' (first | refine C.seq ?_ | refine C.region ?_ | refine L.nil ?_ | refine D.seq ?_ | refine L.move (k := ?_) | refine L.assign (k := ?_) | refine L.cm (c := ?_) | refine L.fieldAddr (c := ?_) | refine L.load1 0 (c := ?_) | refine L.load1 1 (c := ?_) | refine C.yes (h1 := ?_) | refine C.block ?_ | refine C.ret ?_ | refine D.thenRet ?_ | refine D.blkRet ?_ | refine C.skip ?_ | refine L.neA (c := ?_) | exact D.endsQ | refine QL.fin ?_ | refine C.quiet (h := ?_) | (refine QL.step (v := ?_) (by exact rfl) (by exact rfl) ?_ ?_; rotate_left) | refine L.lenR s1 (c := ?_) | refine L.indexR s1 hlt (c := ?_) | refine L.indexR s2 hly (c := ?_) | refine L.loadOA o1 (i := i * 3) (ho := rfl) (hi := hal1) (hcs := ha1) (c := ?_) | refine L.loadOA o2 (i := i * 3) (ho := rfl) (hi := hal2) (hcs := ha2) (c := ?_))
      (refine D.ret (vs := [_]) (RV.tmp rfl RV.nil) ?_; intro w' hw; exact Post.mkD 2 hw rfl ⟨by rw [decide_eq_false (fun e => ne_of_at hx hy hxy e.2.1)]; rfl, rfl⟩)
  have hbc : bs = cs := by
    rw [List.take_of_length_le hge, List.take_of_length_le (by omega)] at ht; exact ht
  have c4 : cm .lss (i : Int) bs.length = false := cm_lo' (by omega)
  repeat' (first | refine C.seq ?_ | refine C.region ?_ | refine L.nil ?_ | refine D.seq ?_ | refine L.move (k := ?_) | refine L.assign (k := ?_) | refine L.cm (c := ?_) | refine L.fieldAddr (c := ?_) | refine L.load1 1 (c := ?_) | refine C.no (h1 := ?_) | refine C.block ?_ | refine C.exit ?_ | refine D.thenExit ?_ | refine D.blkExit ?_ | refine L.lenR s1 (c := ?_))
  refine C.loop (α := Nat) (fun i => i ≤ os.length ∧ os.take i = ps.take i) (fun i => [(2, .pointer (some ⟨p1, 0, none⟩)), (3, .pointer (some ⟨p2, 0, none⟩)), (6, .int .i64 i)]) (fun _ => [(p2, ob [.int .i64 q, ub, uo] 25), (p1, ob [.int .i64 r, vb, vo] 25)]) (fun i => os.length - i) 0
    (fun a w hs => hs.lessE rfl (lk_cons rfl (lk_cons rfl (lk_cons rfl (fun _ _ h => lk_nil h))))) ⟨Nat.zero_le _, rfl⟩ ?_
  rintro k ⟨hk, hu⟩
  rcases Nat.lt_or_ge k os.length with hlt | hge2
  · have c4 : cm .lss (k : Int) os.length = true := cm_lo (by omega)
    obtain ⟨x, hx⟩ : ∃ x, os[k]? = some x := ⟨_, List.getElem?_eq_getElem hlt⟩
    obtain ⟨z, hy⟩ : ∃ z, ps[k]? = some z := ⟨_, List.getElem?_eq_getElem (by omega)⟩
    have o1 := hr.1.2.2 (by omega)
    have o2 := hr.2.2.2 (by omega)
    have hly : k < ps.length := by omega
    have c5 : ar .add .i64 (k : Int) 1 = ((k + 1 : Nat) : Int) := wrap_nat (by omega)
    obtain ⟨ha1', hal1⟩ := flat_at encO_len hx
    have ha1 := ha1'.trans (encO_ex x)
    obtain ⟨ha2', hal2⟩ := flat_at encO_len hy
    have ha2 := ha2'.trans (encO_ex z)
    by_cases hxy : x = z
    · have c6 := eqO_t x z hxy
      repeat' (first | refine C.seq ?_ | refine C.region ?_ | refine L.nil ?_ | refine D.seq ?_ | refine L.move (k := ?_) | refine L.assign (k := ?_) | refine L.cm (c := ?_) | refine L.ar (c := ?_) | refine L.fieldAddr (c := ?_) | refine L.load1 0 (c := ?_) | refine L.load1 1 (c := ?_) | refine C.yes (h1 := ?_) | refine C.no (h1 := ?_) | refine C.block ?_ | refine D.blkNormal ?_ | refine C.skip ?_ | refine L.neA (c := ?_) | exact D.endsQ | refine QL.fin ?_ | refine C.quiet (h := ?_) | (refine QL.step (v := ?_) (by exact rfl) (by exact rfl) ?_ ?_; rotate_left) | refine L.lenR t1 (c := ?_) | refine L.indexR t1 hlt (c := ?_) | refine L.indexR t2 hly (c := ?_) | refine L.loadOA o1 (i := k * 8) (ho := rfl) (hi := hal1) (hcs := ha1) (c := ?_) | refine L.loadOA o2 (i := k * 8) (ho := rfl) (hi := hal2) (hcs := ha2) (c := ?_))
      exact D.then_ fun a1 w1 hs => ⟨k + 1, ⟨by omega, take_eq_succ hx (by rw [hxy]; exact hy) hu⟩, by omega, hs.lessE rfl (lk_cons rfl (lk_cons rfl (lk_cons rfl (fun _ _ h => lk_nil h))))⟩
    · have c6 := eqO_f x z hxy
      repeat' (first | refine C.seq ?_ | refine C.region ?_ | refine L.nil ?_ | refine D.seq ?_ | refine L.move (k := ?_) | refine L.assign (k := ?_) | refine L.cm (c := ?_) | refine L.fieldAddr (c := ?_) | refine L.load1 0 (c := ?_) | refine L.load1 1 (c := ?_) | refine C.yes (h1 := ?_) | refine C.block ?_ | refine C.ret ?_ | refine D.thenRet ?_ | refine D.blkRet ?_ | refine C.skip ?_ | refine L.neA (c := ?_) | exact D.endsQ | refine QL.fin ?_ | refine C.quiet (h := ?_) | (refine QL.step (v := ?_) (by exact rfl) (by exact rfl) ?_ ?_; rotate_left) | refine L.lenR t1 (c := ?_) | refine L.indexR t1 hlt (c := ?_) | refine L.indexR t2 hly (c := ?_) | refine L.loadOA o1 (i := k * 8) (ho := rfl) (hi := hal1) (hcs := ha1) (c := ?_) | refine L.loadOA o2 (i := k * 8) (ho := rfl) (hi := hal2) (hcs := ha2) (c := ?_))
      (refine D.ret (vs := [_]) (RV.tmp rfl RV.nil) ?_; intro w' hw; exact Post.mkD 2 hw rfl ⟨by rw [decide_eq_false (fun e => ne_of_at hx hy hxy e.2.2)]; rfl, rfl⟩)
  have hop : os = ps := by
    rw [List.take_of_length_le hge2, List.take_of_length_le (by omega)] at hu; exact hu
  have c4 : cm .lss (k : Int) os.length = false := cm_lo' (by omega)
  repeat' (first | refine C.seq ?_ | refine C.region ?_ | refine L.nil ?_ | refine D.seq ?_ | refine L.move (k := ?_) | refine L.assign (k := ?_) | refine L.cm (c := ?_) | refine L.fieldAddr (c := ?_) | refine L.load1 1 (c := ?_) | refine C.no (h1 := ?_) | refine C.ret ?_ | refine C.exit ?_ | refine D.thenExit ?_ | refine D.blkExit ?_ | refine L.lenR t1 (c := ?_))
  (refine D.ret (vs := [_]) (RV.tmp rfl RV.nil) ?_; intro w' hw; exact Post.mkD 2 hw rfl ⟨by rw [decide_eq_true ⟨hr0, hbc, hop⟩]; rfl, rfl⟩)
theorem zip_snd {bs : List Bf} {rs rt : Rws} (h : rs.map (·.2) = rt.map (·.2)) : rowsM bs rs = rowsM bs rt ∧ initL bs rs = initL bs rt := by
  have hl : rs.length = rt.length := by have := congrArg List.length h; simpa using this
  have h1 : ∀ q : Rws, sizesM bs q = (bs.zip (q.map (·.2))).all fun x => okRow x.1 x.2.length := fun q => by
    unfold sizesM; rw [List.zip_map_right, List.all_map]; rfl
  have h2 : ∀ q : Rws, initB bs q = (bs.zip (q.map (·.2))).map fun x => initRow x.1 x.2 := fun q => by
    unfold initB; rw [List.zip_map_right, List.map_map]; rfl
  constructor
  · unfold rowsM; rw [hl, h1, h1, h]
  · unfold initL; rw [h2, h2, h]
theorem outR_snd {regs : Int} {bs : List Bf} {os : List Lop} {rs rt : Rws} (h : rs.map (·.2) = rt.map (·.2)) : outR regs bs os rs = outR regs bs os rt := by
  obtain ⟨h1, h2⟩ := zip_snd (bs := bs) h
  unfold outR; rw [h1, h2]
def endsL (regs : Int) (bs : List Bf) (os : List Lop) : List Int := if (checkM regs bs os).2 ≠ 0 then [] else eRun os os.length
theorem endsL_len (regs : Int) (bs : List Bf) (os : List Lop) : (endsL regs bs os).length ≤ os.length := by
  unfold endsL; split
  · simp
  · rw [eRun_len]; omega
theorem ends_read {regs : Int} {bs : List Bf} {os : List Lop} {v : Value} {B : Hp} (h : endsR regs bs os v B) {w0 w : World} {A : List Nat} {M : Hp} (hw : At w0 A (B ++ M) w) : ∃ ev, v = shut [ev] ∧ Rd w (keys M) ev (endsL regs bs os).length ((endsL regs bs os).map int) := by
  unfold endsR at h
  unfold endsL
  split at h
  · rename_i he
    obtain ⟨rfl, rfl⟩ := h
    rw [if_pos he]
    exact ⟨_, rfl, Rd.nil⟩
  · rename_i he
    obtain ⟨eb, rfl, rfl⟩ := h
    rw [if_neg he]
    refine ⟨_, rfl, ?_⟩
    have e := eRun_len os os.length
    rw [e]
    exact hw.left (b := eb) (l := (eRun os os.length).map int) (T := 3) List.mem_cons_self (Nat.le_refl _) os.length (by rw [List.take_of_length_le (by simp [e])])
end Go.Proofs.Ytkjlgapkcdcmgaa
