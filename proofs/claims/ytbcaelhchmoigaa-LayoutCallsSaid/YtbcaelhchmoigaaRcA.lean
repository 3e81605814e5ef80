import Derived.Test.YtbcaelhchmoigaaRcD
import Derived.Test.YtbcaelhchmoigaaMG
set_option maxHeartbeats 1000000
set_option linter.unusedVariables false
set_option linter.unusedSimpArgs false
namespace Go.Proofs.Ytbcaelhchmoigaa
open Go.RowKit Calm SL
attribute [local irreducible] SL.L SL.C SL.D SL.N SL.H
def cR (s : ByteArray) (c : Cur) : Obj := ob [.string s, .int .i64 ((s.size - c.1.length : Nat) : Int), .bool !c.2] 63
theorem cR_eq {s : ByteArray} {n : Nat} {k : Bool} (h : n ≤ s.size) : cR s ((bytesOf s).drop n, k) = ob [.string s, .int .i64 n, .bool !k] 63 := by
  unfold cR
  have : s.size - ((bytesOf s).drop n).length = n := by rw [List.length_drop, bytesOf_length]; omega
  simp only [this]
theorem cmR_ge {a b : Int} (h : b ≤ a) : cm .geq a b = true := by show decide (a ≥ b) = true; simpa using h
theorem cmR_ge' {a b : Int} (h : a < b) : cm .geq a b = false := by show decide (a ≥ b) = false; simpa using h
theorem cmR_ne {a b : Int} (h : a ≠ b) : cm .neq a b = true := by show (a != b) = true; simpa using h
theorem cmR_ne' {a b : Int} (h : a = b) : cm .neq a b = false := by show (a != b) = false; simpa using h
theorem cmR_lo {a b : Int} (h : a < b) : cm .lss a b = true := by show decide (a < b) = true; simpa using h
theorem cmR_lo' {a b : Int} (h : b ≤ a) : cm .lss a b = false := by show decide (a < b) = false; simpa using h
theorem byteR_S (b : Nat) (s : ByteArray) (c : Cur) (h16 : s.size ≤ 1000000) (hs : Suf s c) : Ctr Try.prog 44 [.pointer (some ⟨b, 0, none⟩)] [(b, cR s c)] tt (is (.int .i64 (nx c).1) [(b, cR s (nx c).2)]) := by
  obtain ⟨l, k⟩ := c
  obtain ⟨n, hn, rfl⟩ := hs
  rw [cR_eq hn]
  rcases Nat.lt_or_ge n s.size with hlt | hge
  · rw [drop_nx s n k hlt, cR_eq hlt]
    have c1 : cm .geq (n : Int) s.size = false := cmR_ge' (by omega)
    have c2 : ar .add .i64 (n : Int) 1 = ((n + 1 : Nat) : Int) := wrap_nat (by omega)
    have c3 : ar .sub .i64 ((n + 1 : Nat) : Int) 1 = (n : Int) := by
      show IntKind.i64.wrap _ = _
      rw [wrap_nat (by omega)]; omega
    have hv : s[((n : Int)).toNat]? = some s[n] := by rw [Int.toNat_natCast]; exact getElem?_pos s n hlt
    have c4 : IntKind.i64.wrap (s[n].toNat : Int) = (s[n].toNat : Int) := wrap_nat (by have := s[n].toNat_lt; omega)
    refine Ctr.enter Try.func44 Try.ntmps44 rfl rfl (fun w _ => ?_)
    repeat (first | refine L.indexS (h0 := by omega) (hv := hv) (c := ?_) | refine L.convI (hz := c4) (c := ?_) | refine Af ?_ | refine Ac ?_ | refine Aa ?_ | refine Ae ?_ | refine Ad ?_ | refine Ag ?_ | refine Ah ?_ | refine Ao ?_ | refine Ay ?_ | refine Ak 0 ?_ | refine Ab 0 ?_ | refine L.nilCheck (k := ?_) | refine Aj ?_ | refine L.lenS (c := ?_) | refine An ?_ | refine Ap ?_ | exact D.endsQ | refine C.quiet (h := ?_) | (refine QL.step (v := ?_) (by exact rfl) (by exact rfl) ?_ ?_; rotate_left))
    refine D.ret (vs := [_]) (RV.tmp rfl RV.nil) ?_
    intro w' hw
    exact Post.mkD 0 hw rfl ⟨rfl, rfl⟩
  · rw [drop_end s n k (by omega), cR_eq hn]
    have c1 : cm .geq (n : Int) s.size = true := cmR_ge (by omega)
    refine Ctr.enter Try.func44 Try.ntmps44 rfl rfl (fun w _ => ?_)
    repeat (first | refine Af ?_ | refine Ac ?_ | refine Aa ?_ | refine Ae ?_ | refine Ad ?_ | refine Ag ?_ | refine Ah ?_ | refine Ay ?_ | refine Ak 0 ?_ | refine Ab 0 ?_ | refine L.nilCheck (k := ?_) | refine Am ?_ | refine L.lenS (c := ?_) | refine An ?_ | refine Av ?_ | exact D.endsQ | refine C.quiet (h := ?_) | (refine QL.step (v := ?_) (by exact rfl) (by exact rfl) ?_ ?_; rotate_left))
    refine D.ret (vs := [_]) (RV.tmp rfl RV.nil) ?_
    intro w' hw
    exact Post.mkD 0 hw rfl ⟨rfl, rfl⟩
theorem pow_k (i : Nat) : (256 : Int) ^ i = 2 ^ (8 * i) := by
  rw [Int.pow_mul]; rfl
theorem RestB.of {s : ByteArray} {c : Cur} (h : Suf s c) : RestB c := by
  obtain ⟨n, hn, he⟩ := h
  intro x hx
  rw [he] at hx
  have hx : x ∈ bytesOf s := List.mem_of_mem_drop hx
  unfold bytesOf at hx
  obtain ⟨y, _, rfl⟩ := List.mem_map.1 hx
  have := y.toNat_lt
  show 0 ≤ (y.toNat : Int) ∧ (y.toNat : Int) ≤ 255
  omega
theorem wrap_u64 {n : Int} (h : 0 ≤ n ∧ n < 18446744073709551616) : IntKind.u64.wrap n = n := by
  simp only [IntKind.wrap, IntKind.bits, IntKind.signed]
  simp
  omega
theorem shl_y {y : Int} (hy : 0 ≤ y ∧ y ≤ 255) {i : Nat} (hi : i < 8) : ar .shl .u64 y (8 * (i : Int)) = y * 2 ^ (8 * i) := by
  show IntKind.u64.wrap (y * 2 ^ (min (8 * (i : Int)).toNat 64)) = _
  have e : (8 * (i : Int)).toNat = 8 * i := by omega
  rw [e, Nat.min_eq_left (by omega)]
  have : i = 0 ∨ i = 1 ∨ i = 2 ∨ i = 3 ∨ i = 4 ∨ i = 5 ∨ i = 6 ∨ i = 7 := by omega
  rcases this with rfl | rfl | rfl | rfl | rfl | rfl | rfl | rfl <;> exact wrap_u64 (by simp; omega)
theorem or_y {c : Cur} {s : ByteArray} (h : Suf s c) {i : Nat} (hi : i < 8) : ar .or .u64 (valD i c).1 ((nx (valD i c).2).1 * 2 ^ (8 * i)) = (valD (i + 1) c).1 := by
  have h1 := (rest_val (RestB.of h) i).2
  have h2 := (h.val i).byte
  show bits .or .u64 _ _ = _
  rw [or_high _ _ (8 * i) (by omega) h1 h2, (valD_skip i c).2, pow_k]
theorem num_end {c : Cur} {s : ByteArray} (h : Suf s c) {k : Nat} (hk : k = 1 ∨ k = 4 ∨ k = 8) :
    ar .shr .i64 (IntKind.i64.wrap (ar .shl .u64 (valD k c).1 (64 - 8 * (k : Int)))) (64 - 8 * (k : Int)) = (numD k c).1 := by
  have h1 := (rest_val (RestB.of h) k).2
  show (IntKind.i64.wrap (IntKind.u64.wrap ((valD k c).1 * 2 ^ (min (64 - 8 * (k : Int)).toNat 64)))).fdiv (2 ^ (min (64 - 8 * (k : Int)).toNat 64)) = sgnD k (valD k c).1
  rcases hk with rfl | rfl | rfl
  · have e : min (64 - 8 * ((1 : Nat) : Int)).toNat 64 = 56 := rfl
    rw [e, wrap_u64 (by simp at h1 ⊢; omega), Int.fdiv_eq_ediv_of_nonneg _ (by decide)]
    rw [IntKind.wrap_i64]
    have := sgn_1 (valD 1 c).1 (by simpa using h1)
    unfold wrap64 at this
    simpa using this
  · have e : min (64 - 8 * ((4 : Nat) : Int)).toNat 64 = 32 := rfl
    rw [e, wrap_u64 (by simp at h1 ⊢; omega), Int.fdiv_eq_ediv_of_nonneg _ (by decide)]
    rw [IntKind.wrap_i64]
    have := sgn_4 (valD 4 c).1 (by simpa using h1)
    unfold wrap64 at this
    simpa using this
  · have e : min (64 - 8 * ((8 : Nat) : Int)).toNat 64 = 0 := rfl
    rw [e, wrap_u64 (by simp at h1 ⊢; omega), Int.fdiv_eq_ediv_of_nonneg _ (by decide)]
    rw [IntKind.wrap_i64]
    have := sgn_8 (valD 8 c).1 (by simpa using h1)
    unfold wrap64 at this
    simpa using this
theorem numberR_S (k : Nat) (hk : k = 1 ∨ k = 4 ∨ k = 8) (b : Nat) (s : ByteArray) (c : Cur) (h16 : s.size ≤ 1000000) (hs : Suf s c) : Ctr Try.prog 45 [.pointer (some ⟨b, 0, none⟩), .int .i64 (k : Int)] [(b, cR s c)] tt (is (.int .i64 (numD k c).1) [(b, cR s (numD k c).2)]) := by
  refine Ctr.enter Try.func45 Try.ntmps45 rfl rfl (fun w _ => ?_)
  repeat (first | refine Af ?_ | refine Ac ?_ | refine Aa ?_ | refine Ae ?_ | refine Ag ?_ | refine Ai ?_)
  refine C.loop (α := Nat) (fun i => i ≤ k) (fun i => [(0, .pointer (some ⟨b, 0, none⟩)), (1, .int .i64 (k : Int)), (5, .int .u64 (valD i c).1), (6, .int .i64 (i : Int))]) (fun i => [(b, cR s (valD i c).2)]) (fun i => k - i) 0
    (fun a w hs => hs.lessE rfl (lk_cons rfl (lk_cons rfl (lk_cons rfl (lk_cons rfl (fun _ _ h => lk_nil h)))))) (Nat.zero_le _) ?_
  intro i hi
  rcases Nat.lt_or_ge i k with hlt | hge
  · have hk8 : k ≤ 8 := by omega
    have k1 : cm .lss (i : Int) (k : Int) = true := cmR_lo (by omega)
    have k2 : ar .add .i64 (i : Int) 1 = ((i + 1 : Nat) : Int) := wrap_nat (by omega)
    have hv := hs.val i
    have hy := hv.byte
    have w1 : IntKind.u64.wrap (nx (valD i c).2).1 = (nx (valD i c).2).1 := wrap_u64 ⟨hy.1, by have := hy.2; omega⟩
    have m8 : ar .mul .i64 8 (i : Int) = 8 * (i : Int) := wrap_nat (by omega)
    have w2 : IntKind.u64.wrap (8 * (i : Int)) = 8 * (i : Int) := wrap_u64 (by omega)
    have sh := shl_y hy (show i < 8 by omega)
    have hor := or_y hs (show i < 8 by omega)
    have o8 : arOk .shl .u64 .u64 (8 * (i : Int)) = true := by show decide (0 ≤ 8 * (i : Int)) = true; simp; omega
    repeat (first | refine L.convI (hz := w1) (c := ?_) | refine L.convI (hz := w2) (c := ?_) | refine Ao (ho := o8) (hz := sh) ?_ | refine Af ?_ | refine Ac ?_ | refine Aa ?_ | refine Ae ?_ | refine Ad ?_ | refine Ag ?_ | refine Ah ?_ | refine Ao ?_ | refine Am ?_ | refine Ai ?_ | refine Ar ?_ | refine Ap ?_ | refine L.call1 0 (byteR_S b s (valD i c).2 h16 hv) (by exact rfl) (by exact rfl) (by exact rfl) (fun _ _ => trivial) (by simp only [hset]; rfl) ?_)
    rw [← (valD_skip i c).1]
    exact D.then_ fun a1 w1 hs => ⟨i + 1, hlt, by omega, hs.lessE rfl (lk_cons rfl (lk_cons rfl (lk_cons rfl (lk_cons rfl (fun _ _ h => lk_nil h)))))⟩
  · obtain rfl : k = i := by omega
    have k1 : cm .lss (k : Int) (k : Int) = false := cmR_lo' (by omega)
    have m8 : ar .mul .i64 8 (k : Int) = 8 * (k : Int) := wrap_nat (by omega)
    have s8 : ar .sub .i64 64 (8 * (k : Int)) = 64 - 8 * (k : Int) := wrap_nat (by omega)
    have w2 : IntKind.u64.wrap (64 - 8 * (k : Int)) = 64 - 8 * (k : Int) := wrap_u64 (by omega)
    have o8 : arOk .shl .u64 .u64 (64 - 8 * (k : Int)) = true := by show decide (0 ≤ 64 - 8 * (k : Int)) = true; simp; omega
    have o9 : arOk .shr .i64 .u64 (64 - 8 * (k : Int)) = true := by show decide (0 ≤ 64 - 8 * (k : Int)) = true; simp; omega
    have hn := num_end hs hk
    repeat (first | refine L.convI (hz := w2) (c := ?_) | refine Ao (ho := o8) ?_ | refine Ao (ho := o9) (hz := hn) ?_ | refine Af ?_ | refine Ac ?_ | refine Aa ?_ | refine Ae ?_ | refine Ad ?_ | refine Ag ?_ | refine Ah ?_ | refine Ao ?_ | refine Aj ?_ | refine An ?_ | refine C.exit ?_ | refine Bg ?_ | refine Bh ?_ | refine L.convI (c := ?_))
    refine D.ret (vs := [_]) (RV.tmp rfl RV.nil) ?_
    intro w' hw
    exact Post.mkD 0 hw rfl ⟨rfl, rfl⟩
end Go.Proofs.Ytbcaelhchmoigaa
