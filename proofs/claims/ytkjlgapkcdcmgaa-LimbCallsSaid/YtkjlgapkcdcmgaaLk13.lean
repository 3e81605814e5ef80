/- secrecy: masks, taints, secret. -/
import Derived.Test.YtkjlgapkcdcmgaaLk12
import Derived.Laws.BitsAllLaws
set_option linter.unusedVariables false
set_option linter.unusedSimpArgs false
namespace Go.Proofs.Ytkjlgapkcdcmgaa
open Go Go.RowKit SL
attribute [local irreducible] SL.L SL.C SL.D SL.N SL.H SL.QL SL.QW SL.QP

section
variable {P : Program} {ops : Array Oper} {Q : Exit → Act → World → Prop} {s : St} {E : Env} {M : Hp} {rest : List Oper} {d t : Nat} {pos : String} {af : Array Edge}
theorem L.inv {x : Operand} {k : IntKind} {n z : Int} {T : TypeId} (hn : Nat.blt d s.n = true := by exact rfl) (hx : ev E x = some (.int k n) := by exact rfl) (hz : bits .xor k (if k.signed then -1 else k.max) n = z)
    (c : L P ops Q rest s ((d, .int k z) :: E) M) : L P ops Q (⟨some d, .unOp .xor T x, t, pos, af, none⟩ :: rest) s E M :=
  L.val hn (fun e w hs => ⟨w, by
    refine run_value ?_
    rw [hs.ev hx, ← hz]; rfl, hs.at_⟩) c
end
def mhas (m : Nat) (r : Int) : Bool := cm .geq r 0 && m.testBit r.toNat
def mwith (m : Nat) (r : Int) : Nat := if cm .lss r 0 then m else m ||| 1 <<< r.toNat
theorem shl_lt {r : Nat} (h : r < 64) : 1 <<< r < 18446744073709551616 := by
  rw [Nat.shiftLeft_eq, Nat.one_mul]
  exact Nat.lt_of_le_of_lt (Nat.pow_le_pow_right (by decide) (show r ≤ 63 by omega)) (by decide)
theorem mwith_lt {m : Nat} {r : Int} (hm : m < 18446744073709551616) (hr : r < 64) : mwith m r < 18446744073709551616 := by
  unfold mwith
  split
  · exact hm
  · have := Nat.or_lt_two_pow (n := 64) (x := m) (y := 1 <<< r.toNat) (by omega) (by have := shl_lt (r := r.toNat) (by omega); omega)
    omega
theorem ar_shl1 {r : Int} (h0 : 0 ≤ r) (hr : r < 64) : ar .shl .u64 1 r = ((1 <<< r.toNat : Nat) : Int) := by
  show IntKind.u64.wrap (1 * 2 ^ (min r.toNat 64)) = _
  rw [Nat.min_eq_left (by omega), Int.one_mul]
  have h := shl_lt (r := r.toNat) (by omega)
  rw [show ((2 : Int) ^ r.toNat) = ((1 <<< r.toNat : Nat) : Int) by rw [Nat.shiftLeft_eq, Nat.one_mul]; simp]
  have h2 : ((1 <<< r.toNat : Nat) : Int) < ((18446744073709551616 : Nat) : Int) := Int.ofNat_lt.2 h
  exact u64_wrap ⟨Int.natCast_nonneg _, h2⟩
theorem ar_with {m : Nat} {r : Int} (hm : m < 18446744073709551616) (h0 : 0 ≤ r) (hr : r < 64) : ar .or .u64 (m : Int) ((1 <<< r.toNat : Nat) : Int) = ((mwith m r : Nat) : Int) := by
  unfold mwith
  rw [if_neg (by simp [cm]; omega)]
  exact u64_or_nat _ _ hm (shl_lt (by omega))
theorem ar_has {m : Nat} {r : Int} (hm : m < 18446744073709551616) (h0 : 0 ≤ r) (hr : r < 64) : cm .eql (ar .and .u64 (ar .shr .u64 (m : Int) r) 1) 1 = m.testBit r.toNat := by
  have e1 : ar .shr .u64 (m : Int) r = ((m >>> r.toNat : Nat) : Int) := by
    show (m : Int).fdiv (2 ^ (min r.toNat 64)) = _
    rw [Nat.min_eq_left (by omega), Nat.shiftRight_eq_div_pow]
    rw [show ((2 : Int) ^ r.toNat) = ((2 ^ r.toNat : Nat) : Int) by simp]
    exact Int.ofNat_fdiv m (2 ^ r.toNat) |>.symm
  have hlt : m >>> r.toNat < 18446744073709551616 := by
    rw [Nat.shiftRight_eq_div_pow]; exact Nat.lt_of_le_of_lt (Nat.div_le_self _ _) hm
  have e2 : ar .and .u64 ((m >>> r.toNat : Nat) : Int) 1 = ((m >>> r.toNat &&& 1 : Nat) : Int) := u64_and_nat _ 1 hlt (by decide)
  rw [e1, e2]
  show (((m >>> r.toNat &&& 1 : Nat) : Int) == 1) = _
  rw [Nat.testBit, Nat.and_one_is_mod, Nat.one_and_eq_mod_two]
  have := Nat.mod_two_eq_zero_or_one (m >>> r.toNat)
  rcases this with h | h <;> rw [h] <;> rfl
theorem mhas_S (m : Nat) (hm : m < 18446744073709551616) (r : Int) (hr : r < 64) : Ctr Try.prog 55 [.int .u64 m, .int .i64 r] [] tt (is (.bool (mhas m r)) []) := by
  refine Ctr.enter Try.func55 Try.ntmps55 rfl rfl (fun w _ => ?_)
  have hx := fun (h : cm .geq r 0 = true) => ar_has hm (by simpa [cm] using h) hr
  repeat' (first | refine L.ar (op := .shr) (hz := rfl) (ho := by have h0 : cm .geq r 0 = true := (by assumption); simpa [cm, arOk] using h0) (c := ?_) | refine L.cm (hz := hx (by assumption)) (c := ?_) | refine C.seq ?_ | refine C.region ?_ | refine L.nil ?_ | refine D.seq ?_ | refine L.move (k := ?_) | refine L.assign (k := ?_) | refine L.cm (c := ?_) | refine L.ar (c := ?_) | refine L.pickT (k := ?_) | refine L.pickF (k := ?_) | refine L.want (k := ?_) | refine L.pass (k := ?_) | refine C.ret ?_ | exact D.endsG | (refine L.andB 5 (b2 := ?_) (h1 := fun hb => ?_) (h2 := fun hb => ?_) (k := ?_); rotate_left))
  unfold mhas
  (refine D.ret (vs := [_]) (RV.tmp rfl RV.nil) ?_; intro w' hw; exact Post.mk (is := []) hw List.nodup_nil rfl ⟨rfl, rfl⟩)
theorem mwith_S (m : Nat) (hm : m < 18446744073709551616) (r : Int) (hr : r < 64) : Ctr Try.prog 75 [.int .u64 m, .int .i64 r] [] tt (is (.int .u64 (mwith m r)) []) := by
  refine Ctr.enter Try.func75 Try.ntmps75 rfl rfl (fun w _ => ?_)
  cases hc : cm .lss r 0 with
  | true =>
    repeat' (first | refine C.seq ?_ | refine C.region ?_ | refine L.nil ?_ | refine D.seq ?_ | refine L.move (k := ?_) | refine L.assign (k := ?_) | refine L.cm (c := ?_) | refine C.yes (h1 := ?_) | refine C.ret ?_ | refine D.thenRet ?_)
    rw [show mwith m r = m by unfold mwith; rw [if_pos hc]]
    (refine D.ret (vs := [_]) (RV.tmp rfl RV.nil) ?_; intro w' hw; exact Post.mk (is := []) hw List.nodup_nil rfl ⟨rfl, rfl⟩)
  | false =>
    have h0 : 0 ≤ r := by simpa [cm] using hc
    have a1 := ar_shl1 h0 hr
    have a2 := ar_with hm h0 hr
    repeat' (first | refine L.ar (op := .shl) (hz := a1) (ho := by simpa [arOk] using h0) (c := ?_) | refine C.seq ?_ | refine C.region ?_ | refine L.nil ?_ | refine D.seq ?_ | refine L.move (k := ?_) | refine L.assign (k := ?_) | refine L.cm (c := ?_) | refine L.ar (c := ?_) | refine C.no (h1 := ?_) | refine C.ret ?_ | refine C.skip ?_)
    (refine D.ret (vs := [_]) (RV.tmp rfl RV.nil) ?_; intro w' hw; exact Post.mk (is := []) hw List.nodup_nil rfl ⟨rfl, rfl⟩)
/-- What is known of an operation that may be. -/
structure OpOk (regs : Int) (bs : List Bf) (o : Lop) : Prop where
  d : o.d < regs
  e : o.e < regs
  a : o.a < regs
  b : o.b < regs
  c : o.c < regs
  buf : o.k = 14 ∨ o.k = 15 → 0 ≤ o.buf ∧ o.buf < bs.length
theorem opOk {regs : Int} {bs : List Bf} {o : Lop} (h0 : 0 ≤ regs) (h : rfields regs bs o = true) : OpOk regs bs o := by
  have hm := fun r hr => rf_makes h r (by rw [makes_filter h]; exact hr)
  have ht := fun r hr => rf_takes h r (by rw [takes_filter h]; exact hr)
  have key : ∀ r, r ∈ [o.d, o.e] ∨ r ∈ [o.a, o.b, o.c] → r < regs := fun r hr => by
    by_cases hg : cm .geq r 0 = true
    · rcases hr with hr | hr
      · exact (hm r (List.mem_filter.2 ⟨hr, hg⟩)).2
      · exact (ht r (List.mem_filter.2 ⟨hr, hg⟩)).2
    · simp [cm] at hg; omega
  refine ⟨key _ (by simp), key _ (by simp), key _ (by simp), key _ (by simp), key _ (by simp), fun hk => ?_⟩
  obtain ⟨h1, h2⟩ := rf_bad h
  unfold rfields at h
  rw [if_neg (ne_true_of_eq_false h1), if_neg (ne_true_of_eq_false h2), if_pos (by rcases hk with hk | hk <;> simp [mem, cm, hk])] at h
  split at h
  · cases h
  · rename_i hb
    simp [cm] at hb
    omega
def taintM (bs : List Bf) (m : Nat) (o : Lop) : Bool := if cm .eql o.k 14 then (bAt bs o.buf).sec else (mhas m o.a || mhas m o.b) || mhas m o.c
set_option maxHeartbeats 2000000 in
theorem taints_S (regs : Int) (vb vo : Value) (bs : List Bf) (o : Lop) (m : Nat) (hm : m < 18446744073709551616) (hrg : regs ≤ 64) (hok : OpOk regs bs o) : Ctr Try.prog 74 [.int .u64 m, progV regs vb vo, aggO o] [] (fun w => Rd w [] vb bs.length (bs.flatMap encB)) (is (.bool (taintM bs m o)) []) := by
  refine Ctr.enter Try.func74 Try.ntmps74 rfl rfl (fun w hr => ?_)
  have s1 := hr.1
  have ka := mhas_S m hm o.a (by have := hok.a; omega)
  have kb := mhas_S m hm o.b (by have := hok.b; omega)
  have kc := mhas_S m hm o.c (by have := hok.c; omega)
  unfold aggO progV
  by_cases hk : o.k = 14
  · have ce : cm .eql o.k 14 = true := cm_yes hk
    obtain ⟨h0, h1⟩ := hok.buf (.inl hk)
    obtain ⟨j, hj⟩ : ∃ j : Nat, o.buf = j := ⟨o.buf.toNat, by omega⟩
    have hlt : j < bs.length := by omega
    obtain ⟨b, hb⟩ : ∃ b, bs[j]? = some b := ⟨_, List.getElem?_eq_getElem hlt⟩
    have e1 : bAt bs o.buf = b := by unfold bAt; rw [show o.buf.toNat = j by omega, hb]; rfl
    obtain ⟨k0, k1, k2⟩ := b_at hb
    have o1 := hr.2 (by omega)
    repeat' (first | refine C.seq ?_ | refine C.region ?_ | refine L.nil ?_ | refine D.seq ?_ | refine L.assign (k := ?_) | refine L.cm (c := ?_) | refine L.fieldAddr (c := ?_) | refine L.load1 0 (c := ?_) | refine L.load1 1 (c := ?_) | refine L.box (c := fun _ => ?_) | refine C.yes (h1 := ?_) | refine C.ret ?_ | refine D.thenRet ?_ | refine L.indexR s1 hlt (hi := hj) (c := ?_) | refine L.loadF o1 k2 (c := ?_))
    rw [show taintM bs m o = b.sec by unfold taintM; rw [if_pos ce, e1]]
    (refine D.ret (vs := [_]) (RV.tmp rfl RV.nil) ?_; intro w' hw; exact Post.mk (is := []) hw List.nodup_nil rfl ⟨rfl, rfl⟩)
  · have ce : cm .eql o.k 14 = false := cm_no hk
    repeat' (first | refine C.seq ?_ | refine C.region ?_ | refine L.nil ?_ | refine D.seq ?_ | refine L.move (k := ?_) | refine L.assign (k := ?_) | refine L.cm (c := ?_) | refine L.fieldAddr (c := ?_) | refine L.load1 0 (c := ?_) | refine L.box (c := fun _ => ?_) | refine C.no (h1 := ?_) | refine L.pickT (k := ?_) | refine L.pickF (k := ?_) | refine L.want (k := ?_) | refine L.pass (k := ?_) | refine C.ret ?_ | refine C.skip ?_ | refine L.callQ (ka) (k := ?_) | refine L.callQ (kb) (k := ?_) | refine L.callQ (kc) (k := ?_) | exact D.endsG | (refine L.orB 4 (b2 := ?_) (h1 := fun hb => ?_) (h2 := fun hb => ?_) (k := ?_); rotate_left))
    rw [show taintM bs m o = ((mhas m o.a || mhas m o.b) || mhas m o.c) by unfold taintM; rw [if_neg (ne_true_of_eq_false ce)]]
    (refine D.ret (vs := [_]) (RV.tmp rfl RV.nil) ?_; intro w' hw; exact Post.mk (is := []) hw List.nodup_nil rfl ⟨rfl, rfl⟩)
end Go.Proofs.Ytkjlgapkcdcmgaa
