/- Several texts, one behind the other. -/
import Derived.Test.YtkjlgapkcdcmgaaLk35
set_option linter.unusedVariables false
set_option linter.unusedSimpArgs false
namespace Go.Proofs.Ytkjlgapkcdcmgaa
open Go Go.RowKit SL
attribute [local irreducible] SL.L SL.C SL.D SL.N SL.H SL.QL SL.QW SL.QP

theorem wadd_S (a b : Int) (c : Bool) : Ctr Try.prog 101 [.int .u64 a, .int .u64 b, .bool c] [] tt (is2 (.int .u64 (addM a b c).1) (.bool (addM a b c).2)) := by
  refine Ctr.enter Try.func101 Try.ntmps101 rfl rfl (fun w _ => ?_)
  cases c
  all_goals (repeat' (first | refine C.seq ?_ | refine C.region ?_ | refine L.nil ?_ | refine D.seq ?_ | refine L.move (k := ?_) | refine L.assign (k := ?_) | refine L.cm (c := ?_) | refine L.ar (c := ?_) | refine C.yes (h1 := ?_) | refine C.no (h1 := ?_) | refine L.pickT (k := ?_) | refine L.pickF (k := ?_) | refine L.want (k := ?_) | refine L.pass (k := ?_) | refine C.ret ?_ | refine C.skip ?_ | exact D.endsG | (refine L.orB 2 (b2 := ?_) (h1 := fun hb => ?_) (h2 := fun hb => ?_) (k := ?_); rotate_left)))
  all_goals (refine D.ret (vs := [_, _]) (RV.tmp rfl (RV.tmp rfl RV.nil)) ?_; intro w' hw; exact Post.mk (is := []) hw List.nodup_nil rfl ⟨rfl, rfl⟩)
theorem wsub_S (a b : Int) (c : Bool) : Ctr Try.prog 102 [.int .u64 a, .int .u64 b, .bool c] [] tt (is2 (.int .u64 (subM a b c).1) (.bool (subM a b c).2)) := by
  refine Ctr.enter Try.func102 Try.ntmps102 rfl rfl (fun w _ => ?_)
  cases c
  all_goals (repeat' (first | refine C.seq ?_ | refine C.region ?_ | refine L.nil ?_ | refine D.seq ?_ | refine L.move (k := ?_) | refine L.assign (k := ?_) | refine L.cm (c := ?_) | refine L.ar (c := ?_) | refine C.yes (h1 := ?_) | refine C.no (h1 := ?_) | refine L.pickT (k := ?_) | refine L.pickF (k := ?_) | refine L.want (k := ?_) | refine L.pass (k := ?_) | refine C.ret ?_ | refine C.skip ?_ | exact D.endsG | (refine L.orB 2 (b2 := ?_) (h1 := fun hb => ?_) (h2 := fun hb => ?_) (k := ?_); rotate_left)))
  all_goals (refine D.ret (vs := [_, _]) (RV.tmp rfl (RV.tmp rfl RV.nil)) ?_; intro w' hw; exact Post.mk (is := []) hw List.nodup_nil rfl ⟨rfl, rfl⟩)
theorem wmul_S (a b : Int) : Ctr Try.prog 100 [.int .u64 a, .int .u64 b] [] tt (is2 (.int .u64 (mulM a b).1) (.int .u64 (mulM a b).2)) := by
  refine Ctr.enter Try.func100 Try.ntmps100 rfl rfl (fun w _ => ?_)
  repeat' (first | refine C.seq ?_ | refine C.region ?_ | refine L.nil ?_ | refine D.seq ?_ | refine L.move (k := ?_) | refine L.assign (k := ?_) | refine L.ar (c := ?_) | refine C.ret ?_)
  (refine D.ret (vs := [_, _]) (RV.tmp rfl (RV.tmp rfl RV.nil)) ?_; intro w' hw; exact Post.mk (is := []) hw List.nodup_nil rfl ⟨rfl, rfl⟩)
def maskM (c : Bool) : Int := if c then 18446744073709551615 else 0
theorem wmask_S (c : Bool) : Ctr Try.prog 104 [.bool c] [] tt (is (.int .u64 (maskM c)) []) := by
  refine Ctr.enter Try.func104 Try.ntmps104 rfl rfl (fun w _ => ?_)
  cases c
  all_goals (repeat' (first | refine C.seq ?_ | refine C.region ?_ | refine L.nil ?_ | refine D.seq ?_ | refine L.move (k := ?_) | refine L.assign (k := ?_) | refine C.yes (h1 := ?_) | refine C.no (h1 := ?_) | refine C.ret ?_ | refine D.thenRet ?_ | refine C.skip ?_))
  all_goals (refine D.ret (vs := [_]) (RV.tmp rfl RV.nil) ?_; intro w' hw; exact Post.mk (is := []) hw List.nodup_nil rfl ⟨rfl, rfl⟩)
theorem wchoose_S (m a b : Int) : Ctr Try.prog 103 [.int .u64 m, .int .u64 a, .int .u64 b] [] tt (is (.int .u64 (ar .xor .u64 b (ar .and .u64 m (ar .xor .u64 a b)))) []) := by
  refine Ctr.enter Try.func103 Try.ntmps103 rfl rfl (fun w _ => ?_)
  repeat' (first | refine C.seq ?_ | refine C.region ?_ | refine L.nil ?_ | refine D.seq ?_ | refine L.move (k := ?_) | refine L.assign (k := ?_) | refine L.ar (c := ?_) | refine C.ret ?_)
  (refine D.ret (vs := [_]) (RV.tmp rfl RV.nil) ?_; intro w' hw; exact Post.mk (is := []) hw List.nodup_nil rfl ⟨rfl, rfl⟩)
theorem lbit_S (c : Bool) : Ctr Try.prog 99 [.bool c] [] tt (is (.int .u64 (bitM c)) []) := by
  refine Ctr.enter Try.func99 Try.ntmps99 rfl rfl (fun w _ => ?_)
  cases c
  all_goals (repeat' (first | refine C.seq ?_ | refine C.region ?_ | refine L.nil ?_ | refine D.seq ?_ | refine L.move (k := ?_) | refine L.assign (k := ?_) | refine C.yes (h1 := ?_) | refine C.no (h1 := ?_) | refine C.ret ?_ | refine D.thenRet ?_ | refine C.skip ?_))
  all_goals (refine D.ret (vs := [_]) (RV.tmp rfl RV.nil) ?_; intro w' hw; exact Post.mk (is := []) hw List.nodup_nil rfl ⟨rfl, rfl⟩)
theorem carried_S (s : Int) (c : Bool) : Ctr Try.prog 98 [.int .u64 s, .bool c] [] tt (is2 (.int .u64 s) (.int .u64 (bitM c))) := by
  refine Ctr.enter Try.func98 Try.ntmps98 rfl rfl (fun w _ => ?_)
  repeat' (first | refine C.seq ?_ | refine C.region ?_ | refine L.nil ?_ | refine D.seq ?_ | refine L.move (k := ?_) | refine L.assign (k := ?_) | refine C.ret ?_ | refine L.callQ (lbit_S _) (k := ?_))
  (refine D.ret (vs := [_, _]) (RV.tmp rfl (RV.tmp rfl RV.nil)) ?_; intro w' hw; exact Post.mk (is := []) hw List.nodup_nil rfl ⟨rfl, rfl⟩)
/-- A number of 64 bits. -/
def W64 (n : Int) : Prop := 0 ≤ n ∧ n < 18446744073709551616
theorem wrap_W64 (n : Int) : W64 (IntKind.u64.wrap n) := by
  unfold W64
  simp only [IntKind.wrap, IntKind.bits, IntKind.signed]
  simp
  omega
theorem W64.nat {n : Int} (h : W64 n) : ∃ k : Nat, n = k ∧ k < 2 ^ 64 := ⟨n.toNat, by unfold W64 at h; omega, by unfold W64 at h; omega⟩
theorem xor_nat (a b : Nat) (ha : a < 18446744073709551616) (hb : b < 18446744073709551616) : ar .xor .u64 (a : Int) (b : Int) = ((a ^^^ b : Nat) : Int) := by
  show IntKind.u64.wrap ((BitVec.ofInt 64 (a : Int) ^^^ BitVec.ofInt 64 (b : Int)).toNat : Int) = _
  have h := Nat.xor_lt_two_pow (n := 64) (x := a) (y := b) (by omega) (by omega)
  have e1 : (BitVec.ofInt 64 (a : Int)).toNat = a := by simp [BitVec.toNat_ofInt]; omega
  have e2 : (BitVec.ofInt 64 (b : Int)).toNat = b := by simp [BitVec.toNat_ofInt]; omega
  rw [BitVec.toNat_xor, e1, e2]
  exact u64_wrap ⟨Int.natCast_nonneg _, by omega⟩
theorem and_nat (a b : Nat) (ha : a < 18446744073709551616) (hb : b < 18446744073709551616) : ar .and .u64 (a : Int) (b : Int) = ((a &&& b : Nat) : Int) := u64_and_nat a b ha hb
theorem choose_eq (c : Bool) {a b : Int} (ha : W64 a) (hb : W64 b) : ar .xor .u64 b (ar .and .u64 (maskM c) (ar .xor .u64 a b)) = if c then a else b := by
  obtain ⟨x, rfl, hx⟩ := ha.nat
  obtain ⟨y, rfl, hy⟩ := hb.nat
  have hx' : x < 18446744073709551616 := by omega
  have hy' : y < 18446744073709551616 := by omega
  have h := Nat.xor_lt_two_pow (n := 64) (x := x) (y := y) hx hy
  rw [xor_nat x y hx' hy']
  unfold maskM
  cases c with
  | true =>
    simp only [if_true]
    have e : ar .and .u64 (18446744073709551615 : Int) ((x ^^^ y : Nat) : Int) = ((x ^^^ y : Nat) : Int) := by
      have := and_nat 18446744073709551615 (x ^^^ y) (by decide) (by omega)
      rw [show ((18446744073709551615 : Nat) : Int) = 18446744073709551615 from rfl] at this
      rw [this, Nat.and_comm, show (18446744073709551615 : Nat) = 2 ^ 64 - 1 from rfl, Nat.and_two_pow_sub_one_of_lt_two_pow h]
    rw [e, xor_nat y _ hy' (by omega), Nat.xor_comm x y, ← Nat.xor_assoc, Nat.xor_self, Nat.zero_xor]
  | false =>
    simp only [Bool.false_eq_true, if_false]
    have e : ar .and .u64 (0 : Int) ((x ^^^ y : Nat) : Int) = 0 := by
      have := and_nat 0 (x ^^^ y) (by decide) (by omega)
      rw [show ((0 : Nat) : Int) = 0 from rfl] at this
      rw [this, Nat.zero_and]; rfl
    rw [e]
    have := xor_nat y 0 hy' (by decide)
    rw [show ((0 : Nat) : Int) = 0 from rfl] at this
    rw [this, Nat.xor_zero]
theorem odd_eq {c : Int} (h : W64 c) : ar .and .u64 c 1 = ar .rem .u64 c 2 := by
  obtain ⟨x, rfl, hx⟩ := h.nat
  have := and_nat x 1 (by omega) (by decide)
  rw [show ((1 : Nat) : Int) = 1 from rfl] at this
  rw [this, Nat.and_one_is_mod]
  rw [show ar .rem .u64 (x : Int) 2 = Int.tmod (x : Int) 2 from rfl, Int.tmod_eq_emod_of_nonneg (by omega)]; omega
def RngR (r : List Int) : Prop := ∀ x ∈ r, W64 x
theorem rAt_W64 {r : List Int} (h : RngR r) (k : Int) : W64 (rAt r k) := by
  unfold rAt
  split
  · exact ⟨by omega, by omega⟩
  · cases hx : r[k.toNat]? with
    | none => exact ⟨by simp, by simp⟩
    | some x => exact h x (List.mem_of_getElem? hx)
end Go.Proofs.Ytkjlgapkcdcmgaa
namespace Go.Proofs.Ytkjlgapkcdcmgaa
open Go Go.RowKit SL
attribute [local irreducible] SL.L SL.C SL.D SL.N SL.H SL.QL SL.QW SL.QP

/-- A run's cells. -/
def rnC (regs : Int) (vb vo ev : Value) (r : List Int) (bv lv : Value) : List Value := .int .i64 regs :: vb :: vo :: ev :: (r.map u64 ++ [bv, lv])
section
variable {regs : Int} {vb vo ev : Value} {r : List Int} {bv lv : Value}
theorem rn_len (h : r.length = 64) : (rnC regs vb vo ev r bv lv).length = 70 := by simp [rnC, h]
theorem rn_reg {k : Nat} {x : Int} (h : r[k]? = some x) : (rnC regs vb vo ev r bv lv)[4 + k]? = some (.int .u64 x) := by
  have : k < r.length := (List.getElem?_eq_some_iff.1 h).1
  unfold rnC
  rw [show 4 + k = k + 1 + 1 + 1 + 1 by omega]
  simp only [List.getElem?_cons_succ]
  rw [List.getElem?_append_left (by simpa using this), List.getElem?_map, h]; rfl
theorem rn_bufs (h : r.length = 64) : (rnC regs vb vo ev r bv lv)[68]? = some bv := by
  unfold rnC
  simp only [List.getElem?_cons_succ]
  rw [List.getElem?_append_right (by simp [h])]; simp [h]
theorem rn_l (h : r.length = 64) : (rnC regs vb vo ev r bv lv)[69]? = some lv := by
  unfold rnC
  simp only [List.getElem?_cons_succ]
  rw [List.getElem?_append_right (by simp [h])]; simp [h]
theorem rn_set {k : Nat} {x : Int} (hk : k < r.length) : (rnC regs vb vo ev r bv lv).set (4 + k) (.int .u64 x) = rnC regs vb vo ev (r.set k x) bv lv := by
  unfold rnC
  rw [show 4 + k = k + 1 + 1 + 1 + 1 by omega]
  simp only [List.set_cons_succ]
  rw [List.set_append_left _ _ (by simpa using hk), List.map_set]
theorem rn_setB (h : r.length = 64) (v : Value) : (rnC regs vb vo ev r bv lv).set 68 v = rnC regs vb vo ev r v lv := by
  unfold rnC
  simp only [List.set_cons_succ]
  rw [List.set_append_right _ _ (by simp [h])]; simp [h]
theorem rn_setL (h : r.length = 64) (v : Value) : (rnC regs vb vo ev r bv lv).set 69 v = rnC regs vb vo ev r bv v := by
  unfold rnC
  simp only [List.set_cons_succ]
  rw [List.set_append_right _ _ (by simp [h])]; simp [h]
end
theorem lof_S (xb : Nat) (regs : Int) (vb vo ev bv lv : Value) (r : List Int) (k : Int) (hr : r.length = 64) (hk : k < 64) : Ctr Try.prog 88 [.pointer (some ⟨xb, 0, none⟩), .int .i64 k] []
    (fun w => Old w [] xb 0 (rnC regs vb vo ev r bv lv)) (is (.int .u64 (rAt r k)) []) := by
  refine Ctr.enter Try.func88 Try.ntmps88 rfl rfl (fun w hw0 => ?_)
  cases h0 : cm .lss k 0 with
  | true =>
    repeat' (first | refine C.seq ?_ | refine C.region ?_ | refine L.nil ?_ | refine D.seq ?_ | refine L.move (k := ?_) | refine L.assign (k := ?_) | refine L.cm (c := ?_) | refine C.yes (h1 := ?_) | refine C.ret ?_ | refine D.thenRet ?_)
    (refine D.ret (vs := [_]) (RV.tmp rfl RV.nil) ?_; intro w' hw; exact Post.mk (is := []) hw List.nodup_nil rfl ⟨by unfold rAt; rw [if_pos h0]; rfl, rfl⟩)
  | false =>
    have hk0 : 0 ≤ k := by simpa [cm] using h0
    obtain ⟨v, hv⟩ : ∃ v, r[k.toNat]? = some v := ⟨_, List.getElem?_eq_getElem (by omega)⟩
    have hki : k = (k.toNat : Int) := by omega
    have hkl : k.toNat < 64 := by omega
    have hz : 0 + 4 + k.toNat * 1 = 0 + (4 + k.toNat) := by omega
    have hc := rn_reg (regs := regs) (vb := vb) (vo := vo) (ev := ev) (bv := bv) (lv := lv) hv
    repeat' (first | refine C.seq ?_ | refine C.region ?_ | refine L.nil ?_ | refine D.seq ?_ | refine L.move (k := ?_) | refine L.assign (k := ?_) | refine L.cm (c := ?_) | refine L.fieldAddr (c := ?_) | refine L.nilCheck (k := ?_) | refine C.no (h1 := ?_) | refine C.ret ?_ | refine C.skip ?_ | refine L.indexArr (k := k.toNat) hki hkl (c := ?_) | refine L.loadF hw0 hc (ho := hz) (c := ?_))
    (refine D.ret (vs := [_]) (RV.tmp rfl RV.nil) ?_; intro w' hw; exact Post.mk (is := []) hw List.nodup_nil rfl ⟨by unfold rAt; rw [if_neg (by rw [h0]; simp), hv]; rfl, rfl⟩)
theorem wchoose_M (c : Bool) {a b : Int} (ha : W64 a) (hb : W64 b) : Ctr Try.prog 103 [.int .u64 (maskM c), .int .u64 a, .int .u64 b] [] tt (is (.int .u64 (if c then a else b)) []) := by
  have := wchoose_S (maskM c) a b
  rw [choose_eq c ha hb] at this; exact this
theorem cm_two (o : Lop) {n : Int} (h : o.k = n) : ∀ m, cm .eql o.k m = cm .eql n m := fun m => by rw [h]
set_option maxRecDepth 100000 in
set_option maxHeartbeats 8000000 in
theorem lmake_S (xb : Nat) (regs : Int) (vb vo ev bv lv : Value) (r : List Int) (o : Lop) (hr : r.length = 64) (h1 : 1 ≤ o.k) (h13 : o.k ≤ 13) (ha : o.a < 64) (hb : o.b < 64) (hc : o.c < 64) (hsh : o.k = 8 ∨ o.k = 9 → 0 ≤ o.imm) (hW : RngR r) :
    Ctr Try.prog 89 [.pointer (some ⟨xb, 0, none⟩), aggO o] [] (fun w => Old w [] xb 0 (rnC regs vb vo ev r bv lv))
      (is2 (.int .u64 (makeV o (rAt r o.a) (rAt r o.b) (cm .eql (ar .rem .u64 (rAt r o.c) 2) 1)).1) (.int .u64 (makeV o (rAt r o.a) (rAt r o.b) (cm .eql (ar .rem .u64 (rAt r o.c) 2) 1)).2)) := by
  refine Ctr.enter Try.func89 Try.ntmps89 rfl rfl (fun w hw0 => ?_)
  have hodd := odd_eq (rAt_W64 hW o.c)
  have kA := fun (k : Int) (hk : k < 64) => lof_S xb regs vb vo ev bv lv r k hr hk
  have hsh8 : cm .eql o.k 8 = true → arOk .shl .u64 .u64 o.imm = true := fun hk => by have := hsh (.inl (cm_yes' hk)); simp [arOk]; omega
  have hsh9 : cm .eql o.k 9 = true → arOk .shr .u64 .u64 o.imm = true := fun hk => by have := hsh (.inr (cm_yes' hk)); simp [arOk]; omega
  have wa := rAt_W64 hW o.a
  have wb := rAt_W64 hW o.b
  unfold aggO
  repeat' (first | refine C.seq ?_ | refine C.region ?_ | refine L.nil ?_ | refine D.seq ?_ | refine L.assign (k := ?_) | refine L.box (c := fun _ => ?_))
  rename_i ob1
  refine C.quiet (h := ?_)
  repeat' (first | refine C.yesH (h1 := ?_) | refine C.noH (h1 := ?_) | (refine C.condE (h1 := fun hc => ?_) (h2 := fun hc => ?_)) | refine C.seq ?_ | refine C.region ?_ | refine L.nil ?_ | refine D.seq ?_ | refine L.move (k := ?_) | refine L.assign (k := ?_) | refine L.cm (c := ?_) | refine L.ar (c := ?_) | refine L.fieldAddr (c := ?_) | refine L.load1 0 (c := ?_) | refine L.extract (c := ?_) | refine C.block ?_ | refine D.blkNormal ?_ | refine C.ret ?_ | refine D.thenRet ?_ | refine D.blkRet ?_ | refine C.skip ?_ | refine D.seqR (h := ?_) | exact D.endsQ | refine QL.fin ?_ | (refine QL.step (v := ?_) (by exact rfl) (by exact rfl) ?_ ?_; rotate_left) | refine L.callQ (kA o.a ha) (hpre := fun w hw => hw0.at hw) (k := ?_) | refine L.callQ (kA o.b hb) (hpre := fun w hw => hw0.at hw) (k := ?_) | refine L.callQ (kA o.c hc) (hpre := fun w hw => hw0.at hw) (k := ?_) | refine L.callQ (wmul_S _ _) (k := ?_) | refine L.callQ (wadd_S _ _ _) (k := ?_) | refine L.callQ (wsub_S _ _ _) (k := ?_) | (refine L.callD 1 (carried_S _ _) (k := fun v B hvB => ?_); obtain ⟨rfl, rfl⟩ := hvB; unfold shut; simp only [List.take_succ_cons, List.take_zero, List.take_nil, List.cons_append, List.nil_append]) | refine L.callQ (wmask_S _) (k := ?_) | refine L.callQ (wchoose_M _ wa wb) (k := ?_) | refine L.ar (op := .shl) (ho := hsh8 (by assumption)) (c := ?_) | refine L.ar (op := .shr) (ho := hsh9 (by assumption)) (c := ?_))
  --@
  all_goals (refine D.ret (vs := [_, _]) (RV.tmp rfl (RV.tmp rfl RV.nil)) ?_; intro w' hw; refine Post.mk (is := []) hw List.nodup_nil rfl ⟨?_, rfl⟩; first | (have hk : o.k = 1 := cm_yes' (by assumption); unfold makeV; simp only [hk]; rfl) | (have hk : o.k = 2 := cm_yes' (by assumption); unfold makeV; simp only [hk]; rfl) | (have hk : o.k = 3 := cm_yes' (by assumption); unfold makeV; simp only [hk]; rfl) | (have hk : o.k = 4 := cm_yes' (by assumption); unfold makeV; simp only [hk]; rfl) | (have hk : o.k = 5 := cm_yes' (by assumption); unfold makeV; simp only [hk]; rfl) | (have hk : o.k = 6 := cm_yes' (by assumption); unfold makeV; simp only [hk]; rfl) | (have hk : o.k = 7 := cm_yes' (by assumption); unfold makeV; simp only [hk]; rfl) | (have hk : o.k = 8 := cm_yes' (by assumption); unfold makeV; simp only [hk]; rfl) | (have hk : o.k = 9 := cm_yes' (by assumption); unfold makeV; simp only [hk]; rfl) | (have hk : o.k = 10 := cm_yes' (by assumption); unfold makeV; simp only [hk]; rfl) | (have hk : o.k = 11 := cm_yes' (by assumption); unfold makeV; simp only [hk]; rfl) | (have hk : o.k = 12 := cm_yes' (by assumption); unfold makeV; simp only [hk]; rfl) | (have hk : o.k = 13 := by { have e1 : cm .eql o.k 1 = false := (by assumption); have e2 : cm .eql o.k 2 = false := (by assumption); have e3 : cm .eql o.k 3 = false := (by assumption); have e4 : cm .eql o.k 4 = false := (by assumption); have e5 : cm .eql o.k 5 = false := (by assumption); have e6 : cm .eql o.k 6 = false := (by assumption); have e7 : cm .eql o.k 7 = false := (by assumption); have e8 : cm .eql o.k 8 = false := (by assumption); have e9 : cm .eql o.k 9 = false := (by assumption); have e10 : cm .eql o.k 10 = false := (by assumption); have e11 : cm .eql o.k 11 = false := (by assumption); have e12 : cm .eql o.k 12 = false := (by assumption); simp [cm] at e1 e2 e3 e4 e5 e6 e7 e8 e9 e10 e11 e12; omega }; unfold makeV; simp only [hk]; rfl))
end Go.Proofs.Ytkjlgapkcdcmgaa
namespace Go.Proofs.Ytkjlgapkcdcmgaa
open Go Go.RowKit SL
section
variable {P : Program} {Q : Exit → Act → World → Prop} {s : St} {E : Env} {M : Hp} {c : Code}
theorem SL.C.from_ {E' : Env} {M' : Hp} (h : C P c Q s E' M') (k : ∀ a w, Sat s E M a w → Sat s E' M' a w) : C P c Q s E M := fun a w hs => h a w (k a w hs)
/-- A scope that falls through its label at first. -/
theorem SL.C.scopeL {α : Type} {rest rest' : Code} (l : Nat) (G : α → Prop) (EI : α → Env) (MI : α → Hp) (μ : α → Nat) (x0 : α) (g0 : G x0) (hf : findLabel c l = some rest := by exact rfl) (hr : rest = .seq .skip rest' := by exact rfl)
    (first : ∀ Q' : Exit → Act → World → Prop, C P rest' Q' s (EI x0) (MI x0) → C P c Q' s E M)
    (pass : ∀ x, G x → C P rest' (Exit.jump l (fun a w => ∃ y, G y ∧ μ y < μ x ∧ Sat s (EI y) (MI y) a w) Q) s (EI x) (MI x)) : C P (.scope c) Q s E M := by
  refine C.scope l G EI MI μ hf (first _ ?_) (fun x hx => ?_)
  · intro a w hs
    refine wpIn_mono (pass x0 g0 a w hs) ?_
    intro e a' w' hq
    cases e with
    | goto l' => obtain ⟨h1, y, hy, _, hsy⟩ := hq; exact ⟨h1, y, hy, hsy⟩
    | exit id => exact hq
    | normal => exact hq
    | ret => exact hq
    | panic ch => exact hq
    | outgrown => exact hq
  · subst hr
    exact C.seq (C.skip (D.seq (pass x hx)))
/-- Two pieces of code are joined, where the first one is entered. -/
theorem SL.C.joinJ {α : Type} {y : Code} (G : α → Prop) (EI : α → Env) (MI : α → Hp) (h : C P c (Exit.then (fun a w => ∃ z, G z ∧ Sat s (EI z) (MI z) a w) Q) s E M)
    (k : ∀ z, G z → C P y Q s (EI z) (MI z)) : C P c (Exit.then (y.wpIn (fen s.ro) 0 P Q) Q) s E M := by
  intro a w hs
  refine wpIn_mono (h a w hs) ?_
  intro e a' w' hq
  cases e with
  | normal => obtain ⟨z, hz, hsz⟩ := hq; exact k z hz a' w' hsz
  | exit id => exact hq
  | goto l => exact hq
  | ret => exact hq
  | panic ch => exact hq
  | outgrown => exact hq
end
attribute [local irreducible] SL.L SL.C SL.D SL.N SL.H SL.QL SL.QW SL.QP

/-- What a run of limb holds. -/
structure LRun (s : RS) (h : HG) : Prop where
  r : s.r.length = 64
  w : RngR s.r
  b : rowsG s.bufs h.ys
  bw : ∀ row ∈ s.bufs, RngR row
  y : osG 1 s.bufs.length (rowsV s.bufs h.ys) h.y
  l : osG 2 s.l.length (s.l.flatMap encE) h.ly
def lrHp (xb : Nat) (regs : Int) (vb vo ev : Value) (s : RS) (h : HG) : Hp :=
  (xb, ob (rnC regs vb vo ev s.r (osV s.bufs.length h.y) (osV s.l.length h.ly)) 96) :: (osC 47 h.y [] ++ (rowsHp h.ys ++ osC 55 h.ly []))
theorem rng_set {r : List Int} (h : RngR r) {k : Nat} {v : Int} (hv : W64 v) : RngR (r.set k v) := by
  intro x hx
  rcases List.mem_or_eq_of_mem_set hx with h1 | h1
  · exact h x h1
  · rw [h1]; exact hv
theorem LRun.reg {s : RS} {h : HG} (g : LRun s h) {k : Nat} {v : Int} (hv : W64 v) : LRun ⟨s.r.set k v, s.bufs, s.l⟩ h :=
  ⟨by simp [g.r], rng_set g.w hv, g.b, g.bw, g.y, g.l⟩
theorem LRun.ev {s : RS} {h : HG} (g : LRun s h) {e : Ev} {y' : OS} (hy : osG 2 (s.l.length + 1) (s.l.flatMap encE ++ encE e) y') : LRun ⟨s.r, s.bufs, s.l ++ [e]⟩ { h with ly := y' } :=
  ⟨g.r, g.w, g.b, g.bw, g.y, by simpa using hy⟩
theorem LRun.row {s : RS} {h : HG} (g : LRun s h) {k n : Nat} {l : List Int} {y : OS} {v : Int} (hl : s.bufs[k]? = some l) (hy : h.ys[k]? = some y) (hv : W64 v) : LRun ⟨s.r, s.bufs.set k (l.set n v), s.l⟩ { h with ys := h.ys.set k (osSet y (n * 1 + 0) (.int .u64 v)) } := by
  have h1 := g.b.2 k l y hl hy
  have h2 := h1.set (k := n * 1 + 0) (v := .int .u64 v)
  refine ⟨g.r, g.w, rowsG_set g.b ?_, ?_, ?_, g.l⟩
  · rw [List.length_set, List.map_set]; rwa [Nat.mul_one, Nat.add_zero] at h2 ⊢
  · intro row hrow
    rcases List.mem_or_eq_of_mem_set hrow with h3 | h3
    · exact g.bw row h3
    · rw [h3]; exact rng_set (g.bw l (List.mem_of_getElem? hl)) hv
  · show osG 1 (s.bufs.set k _).length _ _
    rw [rowsV_keep hl hy (by rw [List.length_set, osV_set]), List.length_set]; exact g.y
/-- The open loops, the outmost first, stand in order. -/
theorem stk_sorted {os : List Lop} : ∀ i, i ≤ os.length → (stkAt os i).Pairwise (· < ·)
  | 0, _ => by simp [stkAt]
  | i + 1, hi => by
    obtain ⟨ho, _⟩ := opAt_lt (os := os) (i := i) (by omega)
    rw [stk_succ ho]
    have ih := stk_sorted (os := os) i (by omega)
    unfold stkF
    split
    · rw [List.pairwise_append]
      refine ⟨ih, by simp, fun a ha b hb => ?_⟩
      rw [List.mem_singleton] at hb
      rw [hb]
      exact (stk_mem i (by omega) a ha).1
    · split
      · exact ih.sublist (List.dropLast_sublist _)
      · exact ih
/-- A loop that is closed stays closed. -/
theorem stk_gone {os : List Lop} {m e : Nat} (hm : m ∉ stkAt os e) (hme : m < e) : ∀ j, e ≤ j → j ≤ os.length → m ∉ stkAt os j
  | 0, h, _ => by omega
  | j + 1, h, hj => by
    rcases Nat.eq_or_lt_of_le h with rfl | hlt
    · exact hm
    · obtain ⟨ho, _⟩ := opAt_lt (os := os) (i := j) (by omega)
      rw [stk_succ ho]
      have ih := stk_gone hm hme j (by omega) (by omega)
      unfold stkF
      split
      · rw [List.mem_append, List.mem_singleton]
        rintro (hc | hc)
        · exact ih hc
        · simp only at hc; omega
      · split
        · exact fun hc => ih ((List.dropLast_sublist _).mem hc)
        · exact ih
/-- Ends tell the end that belongs to a loop. -/
theorem eRun_loop {os : List Lop} {m e : Nat} (he : e < os.length) (hk : (opAt os e).k = 17) (hm : matchAt os e = m) (hs : ∀ j, j < os.length → (opAt os j).k = 17 → stkAt os j ≠ []) : ∀ i, i ≤ os.length → e < i → (eRun os i)[m]? = some (e : Int)
  | 0, _, h => by omega
  | i + 1, hi, h => by
    have hne := hs e he hk
    have hmem : m ∈ stkAt os e := by rw [← hm]; unfold matchAt; rw [List.getLast?_eq_some_getLast hne]; exact List.getLast_mem hne
    obtain ⟨hml, hm16⟩ := stk_mem e (by omega) m hmem
    unfold eRun estep
    rcases Nat.eq_or_lt_of_le (Nat.le_of_lt_succ h) with rfl | hlt
    · rw [if_pos (cm_yes hk), hm, List.getElem?_set, if_pos rfl, if_pos (by simp [eRun_len]; omega)]
    · have ih := eRun_loop he hk hm hs i (by omega) hlt
      have hgone : m ∉ stkAt os (e + 1) := by
        obtain ⟨ho, _⟩ := opAt_lt (os := os) (i := e) he
        rw [stk_succ ho]
        unfold stkF
        rw [if_neg (by simp only; rw [cm_no (by omega)]; simp), if_pos (by simp only; exact cm_yes hk)]
        have hsrt := stk_sorted (os := os) e (by omega)
        have hl : (stkAt os e).getLast hne = m := by rw [← hm]; unfold matchAt; rw [List.getLast?_eq_some_getLast hne]; rfl
        rw [← List.dropLast_concat_getLast hne, hl] at hsrt
        rw [List.pairwise_append] at hsrt
        exact fun hc => Nat.lt_irrefl m (hsrt.2.2 m hc m (by simp))
      have hgi := stk_gone hgone (by omega) i (by omega) (by omega)
      split
      · rename_i h17
        have h17 : (opAt os i).k = 17 := by simpa [cm] using h17
        have hni := hs i (by omega) h17
        have hmi : matchAt os i ∈ stkAt os i := by unfold matchAt; rw [List.getLast?_eq_some_getLast hni]; exact List.getLast_mem hni
        rw [List.getElem?_set, if_neg (fun (hc : matchAt os i = m) => hgi (by rw [← hc]; exact hmi)), List.getElem?_set, if_neg (by omega), List.getElem?_set, if_neg (by omega), ih]
      · rw [List.getElem?_set, if_neg (by omega), ih]
theorem bitM_W64 (c : Bool) : W64 (bitM c) := by unfold bitM; split <;> exact ⟨by omega, by omega⟩
theorem shr_W64 {a b : Int} (ha : W64 a) : W64 (ar .shr .u64 a b) := by
  show W64 (Int.fdiv a (2 ^ (min b.toNat IntKind.u64.bits)))
  generalize min b.toNat IntKind.u64.bits = k
  obtain ⟨x, rfl, hx⟩ := ha.nat
  have e : Int.fdiv (x : Int) (2 ^ k) = ((x / 2 ^ k : Nat) : Int) := by
    rw [show (2 : Int) ^ k = ((2 ^ k : Nat) : Int) by rw [Int.natCast_pow]; rfl, Int.fdiv_eq_ediv_of_nonneg _ (Int.natCast_nonneg _), Int.natCast_ediv]
  rw [e]
  have := Nat.div_le_self x (2 ^ k)
  exact ⟨Int.natCast_nonneg _, by omega⟩
theorem makeV_W64 {o : Lop} {a b : Int} {c : Bool} (ho : W64 o.imm) (ha : W64 a) (hb : W64 b) : W64 (makeV o a b c).1 ∧ W64 (makeV o a b c).2 := by
  have z : W64 0 := ⟨by omega, by omega⟩
  have w := wrap_W64
  have k : ∀ (c : Bool) (x y : Int × Int), (W64 x.1 ∧ W64 x.2) → (W64 y.1 ∧ W64 y.2) → (W64 (if c then x else y).1 ∧ W64 (if c then x else y).2) := fun c x y h1 h2 => by
    cases c
    · exact h2
    · exact h1
  unfold makeV
  refine k _ _ _ ⟨ho, z⟩ (k _ _ _ ⟨ha, z⟩ (k _ _ _ ⟨w _, z⟩ (k _ _ _ ⟨w _, z⟩ (k _ _ _ ⟨w _, z⟩ (k _ _ _ ⟨w _, z⟩ (k _ _ _ ⟨w _, z⟩ (k _ _ _ ⟨w _, z⟩ (k _ _ _ ⟨shr_W64 ha, z⟩ (k _ _ _ ⟨w _, w _⟩ (k _ _ _ ⟨?_, bitM_W64 _⟩ (k _ _ _ ⟨?_, bitM_W64 _⟩ (k _ _ _ ⟨?_, z⟩ ⟨z, z⟩))))))))))))
  · unfold addM
    cases c <;> exact w _
  · unfold subM
    cases c <;> exact w _
  · cases c
    · exact hb
    · exact ha
end Go.Proofs.Ytkjlgapkcdcmgaa
