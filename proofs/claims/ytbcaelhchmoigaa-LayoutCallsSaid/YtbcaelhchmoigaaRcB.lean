import Derived.Test.YtbcaelhchmoigaaRcA
set_option maxHeartbeats 2000000
set_option linter.unusedVariables false
set_option linter.unusedSimpArgs false
namespace Go.Proofs.Ytbcaelhchmoigaa
open Go.RowKit Calm SL
attribute [local irreducible] SL.L SL.C SL.D SL.N SL.H
theorem remB {x m : Int} (hx : Byte x) : ar .rem .i64 x m = x % m := Int.tmod_eq_emod_of_nonneg hx.1
theorem quoB {x m : Int} (hx : Byte x) (hm : 0 < m) : ar .quo .i64 x m = x / m := by
  show IntKind.i64.wrap (x.tdiv m) = _
  rw [Int.tdiv_eq_ediv_of_nonneg hx.1]
  have h1 := Int.ediv_nonneg hx.1 (Int.le_of_lt hm)
  have h2 : x / m ≤ x := Int.ediv_le_self _ hx.1
  have := hx.2
  exact wrap_nat (by omega)
theorem quo_byte {x m : Int} (hx : Byte x) (hm : 0 < m) : Byte (x / m) := by
  have h1 := Int.ediv_nonneg hx.1 (Int.le_of_lt hm)
  have h2 : x / m ≤ x := Int.ediv_le_self _ hx.1
  have := hx.2
  exact ⟨h1, by omega⟩
theorem addS {x y : Int} (h : 0 ≤ x + y ∧ x + y ≤ 2000000) : ar .add .i64 x y = x + y := wrap_nat h
theorem mulS {x y : Int} (h : 0 ≤ x * y ∧ x * y ≤ 2000000) : ar .mul .i64 x y = x * y := wrap_nat h
theorem lastE {r rm : Int} (hr : Byte r) (hm : Byte rm) : ar .add .i64 (ar .rem .i64 rm 8) (ar .mul .i64 (ar .rem .i64 r 2) 8) = lastD r rm := by
  rw [remB hm, remB hr, mulS (by omega), addS (by omega)]
  unfold lastD; omega
theorem idxE {r x : Int} (hr : Byte r) (hx : Byte x) : ar .add .i64 (ar .rem .i64 (ar .quo .i64 x 8) 8) (ar .mul .i64 (ar .rem .i64 (ar .quo .i64 r 2) 2) 8) = idxD r x := by
  rw [quoB hx (by decide), quoB hr (by decide), remB (quo_byte hx (by decide)), remB (quo_byte hr (by decide)), mulS (by omega), addS (by omega)]
  unfold idxD; omega
theorem midE {r x : Int} (hr : Byte r) (hx : Byte x) : ar .add .i64 (ar .rem .i64 (ar .quo .i64 x 8) 8) (ar .mul .i64 (ar .rem .i64 (ar .quo .i64 r 4) 2) 8) = midD r x := by
  rw [quoB hx (by decide), quoB hr (by decide), remB (quo_byte hx (by decide)), remB (quo_byte hr (by decide)), mulS (by omega), addS (by omega)]
  unfold midD; omega
theorem powE {x : Int} (hx : Byte x) : IntKind.u64.wrap (ar .quo .i64 x 64) = x / 64 ∧ ar .shl .i64 1 (x / 64) = powD (x / 64) ∧ arOk .shl .i64 .u64 (x / 64) = true := by
  have hq := quo_byte hx (show (0 : Int) < 64 by decide)
  have h1 := hx.1; have h2 := hx.2
  rw [quoB hx (by decide)]
  refine ⟨wrap_u64 ⟨hq.1, by have := hq.2; omega⟩, ?_, ?_⟩
  · have : x / 64 = 0 ∨ x / 64 = 1 ∨ x / 64 = 2 ∨ x / 64 = 3 := by omega
    rcases this with h | h | h | h <;> rw [h] <;> rfl
  · show decide (0 ≤ x / 64) = true
    simp; omega
theorem placeR_no1 (r rm : Int) (hr : Byte r) (hm : Byte rm) (b : Nat) (s : ByteArray) (c : Cur) (h16 : s.size ≤ 1000000) (hs : Suf s c) (hA : rm % 8 ≠ 4) (hB : rm / 64 = 1) : Ctr Try.prog 74 [.pointer (some ⟨b, 0, none⟩), .int .i64 r, .int .i64 rm] [(b, cR s c)] tt
    (is (.agg #[.int .i64 (lastD r rm), .int .i64 (-1), .int .i64 (1), .int .i64 ((numD 1 c).1)]) [(b, cR s ((numD 1 c).2))]) := by
  have l1 := lastE hr hm
  have hx := hs.byte
  have l2 := lastE hr hx
  have l3 := idxE hr hx
  obtain ⟨p1, p2, p3⟩ := powE hx
  have a1 : cm .eql (ar .rem .i64 rm 8) 4 = false := by rw [remB hm]; exact cm_no hA
  have b1 : cm .eql (ar .quo .i64 rm 64) 1 = true := by rw [quoB hm (by decide)]; exact cm_yes hB
  refine Ctr.enter Try.func74 Try.ntmps74 rfl rfl (fun w _ => ?_)
  repeat (first | refine L.convI (hz := p1) (c := ?_) | refine Ao (ho := p3) (hz := p2) ?_ | refine Af ?_ | refine Ac ?_ | refine Aa ?_ | refine Ae ?_ | refine Ad ?_ | refine Ag ?_ | refine Ah ?_ | refine Ao ?_ | refine Ay ?_ | refine Al 0 ?_ | refine Ab 0 ?_ | refine Ab 1 ?_ | refine As ?_ | refine Aq (fun _ => ?_) | refine Am ?_ | refine Aj ?_ | refine Ai ?_ | refine Ar ?_ | refine An ?_ | refine Ap ?_ | refine L.call1 2 (byteR_S b s c h16 hs) (by exact rfl) (by exact rfl) (by exact rfl) (fun _ _ => trivial) (by simp only [hset]; rfl) ?_ | refine L.call1 2 (numberR_S 1 (by decide) b s c h16 hs) (by exact rfl) (by exact rfl) (by exact rfl) (fun _ _ => trivial) (by simp only [hset]; rfl) ?_)
  (refine D.ret (vs := [_]) (RV.cellA 1 rfl rfl rfl rfl rfl RV.nil) ?_; intro w' hw; exact Post.mk (is := [2]) hw (by decide) rfl ⟨rfl, rfl⟩)
theorem placeR_no2 (r rm : Int) (hr : Byte r) (hm : Byte rm) (b : Nat) (s : ByteArray) (c : Cur) (h16 : s.size ≤ 1000000) (hs : Suf s c) (hA : rm % 8 ≠ 4) (hB : rm / 64 = 2) : Ctr Try.prog 74 [.pointer (some ⟨b, 0, none⟩), .int .i64 r, .int .i64 rm] [(b, cR s c)] tt
    (is (.agg #[.int .i64 (lastD r rm), .int .i64 (-1), .int .i64 (1), .int .i64 ((numD 4 c).1)]) [(b, cR s ((numD 4 c).2))]) := by
  have l1 := lastE hr hm
  have hx := hs.byte
  have l2 := lastE hr hx
  have l3 := idxE hr hx
  obtain ⟨p1, p2, p3⟩ := powE hx
  have a1 : cm .eql (ar .rem .i64 rm 8) 4 = false := by rw [remB hm]; exact cm_no hA
  have b1 : cm .eql (ar .quo .i64 rm 64) 1 = false := by rw [quoB hm (by decide)]; exact cm_no (by omega)
  have b2 : cm .eql (ar .quo .i64 rm 64) 2 = true := by rw [quoB hm (by decide)]; exact cm_yes hB
  refine Ctr.enter Try.func74 Try.ntmps74 rfl rfl (fun w _ => ?_)
  repeat (first | refine L.convI (hz := p1) (c := ?_) | refine Ao (ho := p3) (hz := p2) ?_ | refine Af ?_ | refine Ac ?_ | refine Aa ?_ | refine Ae ?_ | refine Ad ?_ | refine Ag ?_ | refine Ah ?_ | refine Ao ?_ | refine Ay ?_ | refine Al 0 ?_ | refine Ab 0 ?_ | refine Ab 1 ?_ | refine As ?_ | refine Aq (fun _ => ?_) | refine Am ?_ | refine Aj ?_ | refine Ai ?_ | refine Ar ?_ | refine An ?_ | refine Ap ?_ | refine L.call1 2 (byteR_S b s c h16 hs) (by exact rfl) (by exact rfl) (by exact rfl) (fun _ _ => trivial) (by simp only [hset]; rfl) ?_ | refine L.call1 2 (numberR_S 4 (by decide) b s c h16 hs) (by exact rfl) (by exact rfl) (by exact rfl) (fun _ _ => trivial) (by simp only [hset]; rfl) ?_)
  (refine D.ret (vs := [_]) (RV.cellA 1 rfl rfl rfl rfl rfl RV.nil) ?_; intro w' hw; exact Post.mk (is := [2]) hw (by decide) rfl ⟨rfl, rfl⟩)
theorem placeR_no0 (r rm : Int) (hr : Byte r) (hm : Byte rm) (b : Nat) (s : ByteArray) (c : Cur) (h16 : s.size ≤ 1000000) (hs : Suf s c) (hA : rm % 8 ≠ 4) (hB : rm / 64 ≠ 1) (hC : rm / 64 ≠ 2) : Ctr Try.prog 74 [.pointer (some ⟨b, 0, none⟩), .int .i64 r, .int .i64 rm] [(b, cR s c)] tt
    (is (.agg #[.int .i64 (lastD r rm), .int .i64 (-1), .int .i64 (1), .int .i64 (0)]) [(b, cR s (c))]) := by
  have l1 := lastE hr hm
  have hx := hs.byte
  have l2 := lastE hr hx
  have l3 := idxE hr hx
  obtain ⟨p1, p2, p3⟩ := powE hx
  have a1 : cm .eql (ar .rem .i64 rm 8) 4 = false := by rw [remB hm]; exact cm_no hA
  have b1 : cm .eql (ar .quo .i64 rm 64) 1 = false := by rw [quoB hm (by decide)]; exact cm_no hB
  have b2 : cm .eql (ar .quo .i64 rm 64) 2 = false := by rw [quoB hm (by decide)]; exact cm_no hC
  refine Ctr.enter Try.func74 Try.ntmps74 rfl rfl (fun w _ => ?_)
  repeat (first | refine L.convI (hz := p1) (c := ?_) | refine Ao (ho := p3) (hz := p2) ?_ | refine Af ?_ | refine Ac ?_ | refine Aa ?_ | refine Ae ?_ | refine Ad ?_ | refine Ag ?_ | refine Ah ?_ | refine Ao ?_ | refine Al 0 ?_ | refine Ab 0 ?_ | refine Ab 1 ?_ | refine As ?_ | refine Aq (fun _ => ?_) | refine Aj ?_ | refine Ai ?_ | refine Ar ?_ | refine An ?_ | refine Ap ?_ | refine L.call1 2 (byteR_S b s c h16 hs) (by exact rfl) (by exact rfl) (by exact rfl) (fun _ _ => trivial) (by simp only [hset]; rfl) ?_ | refine L.call1 2 (numberR_S 4 (by decide) b s c h16 hs) (by exact rfl) (by exact rfl) (by exact rfl) (fun _ _ => trivial) (by simp only [hset]; rfl) ?_)
  (refine D.ret (vs := [_]) (RV.cellA 1 rfl rfl rfl rfl rfl RV.nil) ?_; intro w' hw; exact Post.mk (is := [2]) hw (by decide) rfl ⟨rfl, rfl⟩)
theorem placeR_i11 (r rm : Int) (hr : Byte r) (hm : Byte rm) (b : Nat) (s : ByteArray) (c : Cur) (h16 : s.size ≤ 1000000) (hs : Suf s c) (hA : rm % 8 = 4) (hI : (nx c).1 / 8 % 8 ≠ 4) (hB : rm / 64 = 1) : Ctr Try.prog 74 [.pointer (some ⟨b, 0, none⟩), .int .i64 r, .int .i64 rm] [(b, cR s c)] tt
    (is (.agg #[.int .i64 (lastD r (nx c).1), .int .i64 (idxD r (nx c).1), .int .i64 (powD ((nx c).1 / 64)), .int .i64 ((numD 1 (nx c).2).1)]) [(b, cR s ((numD 1 (nx c).2).2))]) := by
  have l1 := lastE hr hm
  have hx := hs.byte
  have l2 := lastE hr hx
  have l3 := idxE hr hx
  obtain ⟨p1, p2, p3⟩ := powE hx
  have a1 : cm .eql (ar .rem .i64 rm 8) 4 = true := by rw [remB hm]; exact cm_yes hA
  have a2 : cm .neq (ar .rem .i64 (ar .quo .i64 (nx c).1 8) 8) 4 = true := by rw [quoB hx (by decide), remB (quo_byte hx (by decide))]; exact cmR_ne hI
  have b1 : cm .eql (ar .quo .i64 rm 64) 1 = true := by rw [quoB hm (by decide)]; exact cm_yes hB
  refine Ctr.enter Try.func74 Try.ntmps74 rfl rfl (fun w _ => ?_)
  repeat (first | refine L.convI (hz := p1) (c := ?_) | refine Ao (ho := p3) (hz := p2) ?_ | refine Af ?_ | refine Ac ?_ | refine Aa ?_ | refine Ae ?_ | refine Ad ?_ | refine Ag ?_ | refine Ah ?_ | refine Ao ?_ | refine Ay ?_ | refine Al 0 ?_ | refine Ab 0 ?_ | refine Ab 1 ?_ | refine As ?_ | refine Aq (fun _ => ?_) | refine Am ?_ | refine Be ?_ | refine Bf ?_ | refine Ai ?_ | refine Ar ?_ | refine An ?_ | refine L.call1 2 (byteR_S b s c h16 hs) (by exact rfl) (by exact rfl) (by exact rfl) (fun _ _ => trivial) (by simp only [hset]; rfl) ?_ | refine L.call1 2 (numberR_S 1 (by decide) b s (nx c).2 h16 hs.n1) (by exact rfl) (by exact rfl) (by exact rfl) (fun _ _ => trivial) (by simp only [hset]; rfl) ?_)
  (refine D.ret (vs := [_]) (RV.cellA 1 rfl rfl rfl rfl rfl RV.nil) ?_; intro w' hw; exact Post.mk (is := [2]) hw (by decide) rfl ⟨rfl, rfl⟩)
theorem placeR_i12 (r rm : Int) (hr : Byte r) (hm : Byte rm) (b : Nat) (s : ByteArray) (c : Cur) (h16 : s.size ≤ 1000000) (hs : Suf s c) (hA : rm % 8 = 4) (hI : (nx c).1 / 8 % 8 ≠ 4) (hB : rm / 64 = 2) : Ctr Try.prog 74 [.pointer (some ⟨b, 0, none⟩), .int .i64 r, .int .i64 rm] [(b, cR s c)] tt
    (is (.agg #[.int .i64 (lastD r (nx c).1), .int .i64 (idxD r (nx c).1), .int .i64 (powD ((nx c).1 / 64)), .int .i64 ((numD 4 (nx c).2).1)]) [(b, cR s ((numD 4 (nx c).2).2))]) := by
  have l1 := lastE hr hm
  have hx := hs.byte
  have l2 := lastE hr hx
  have l3 := idxE hr hx
  obtain ⟨p1, p2, p3⟩ := powE hx
  have a1 : cm .eql (ar .rem .i64 rm 8) 4 = true := by rw [remB hm]; exact cm_yes hA
  have a2 : cm .neq (ar .rem .i64 (ar .quo .i64 (nx c).1 8) 8) 4 = true := by rw [quoB hx (by decide), remB (quo_byte hx (by decide))]; exact cmR_ne hI
  have b1 : cm .eql (ar .quo .i64 rm 64) 1 = false := by rw [quoB hm (by decide)]; exact cm_no (by omega)
  have b2 : cm .eql (ar .quo .i64 rm 64) 2 = true := by rw [quoB hm (by decide)]; exact cm_yes hB
  refine Ctr.enter Try.func74 Try.ntmps74 rfl rfl (fun w _ => ?_)
  repeat (first | refine L.convI (hz := p1) (c := ?_) | refine Ao (ho := p3) (hz := p2) ?_ | refine Af ?_ | refine Ac ?_ | refine Aa ?_ | refine Ae ?_ | refine Ad ?_ | refine Ag ?_ | refine Ah ?_ | refine Ao ?_ | refine Ay ?_ | refine Al 0 ?_ | refine Ab 0 ?_ | refine Ab 1 ?_ | refine As ?_ | refine Aq (fun _ => ?_) | refine Am ?_ | refine Aj ?_ | refine Be ?_ | refine Bf ?_ | refine Ai ?_ | refine Ar ?_ | refine An ?_ | refine L.call1 2 (byteR_S b s c h16 hs) (by exact rfl) (by exact rfl) (by exact rfl) (fun _ _ => trivial) (by simp only [hset]; rfl) ?_ | refine L.call1 2 (numberR_S 4 (by decide) b s (nx c).2 h16 hs.n1) (by exact rfl) (by exact rfl) (by exact rfl) (fun _ _ => trivial) (by simp only [hset]; rfl) ?_)
  (refine D.ret (vs := [_]) (RV.cellA 1 rfl rfl rfl rfl rfl RV.nil) ?_; intro w' hw; exact Post.mk (is := [2]) hw (by decide) rfl ⟨rfl, rfl⟩)
theorem placeR_i10 (r rm : Int) (hr : Byte r) (hm : Byte rm) (b : Nat) (s : ByteArray) (c : Cur) (h16 : s.size ≤ 1000000) (hs : Suf s c) (hA : rm % 8 = 4) (hI : (nx c).1 / 8 % 8 ≠ 4) (hB : rm / 64 ≠ 1) (hC : rm / 64 ≠ 2) : Ctr Try.prog 74 [.pointer (some ⟨b, 0, none⟩), .int .i64 r, .int .i64 rm] [(b, cR s c)] tt
    (is (.agg #[.int .i64 (lastD r (nx c).1), .int .i64 (idxD r (nx c).1), .int .i64 (powD ((nx c).1 / 64)), .int .i64 (0)]) [(b, cR s ((nx c).2))]) := by
  have l1 := lastE hr hm
  have hx := hs.byte
  have l2 := lastE hr hx
  have l3 := idxE hr hx
  obtain ⟨p1, p2, p3⟩ := powE hx
  have a1 : cm .eql (ar .rem .i64 rm 8) 4 = true := by rw [remB hm]; exact cm_yes hA
  have a2 : cm .neq (ar .rem .i64 (ar .quo .i64 (nx c).1 8) 8) 4 = true := by rw [quoB hx (by decide), remB (quo_byte hx (by decide))]; exact cmR_ne hI
  have b1 : cm .eql (ar .quo .i64 rm 64) 1 = false := by rw [quoB hm (by decide)]; exact cm_no hB
  have b2 : cm .eql (ar .quo .i64 rm 64) 2 = false := by rw [quoB hm (by decide)]; exact cm_no hC
  refine Ctr.enter Try.func74 Try.ntmps74 rfl rfl (fun w _ => ?_)
  repeat (first | refine L.convI (hz := p1) (c := ?_) | refine Ao (ho := p3) (hz := p2) ?_ | refine Af ?_ | refine Ac ?_ | refine Aa ?_ | refine Ae ?_ | refine Ad ?_ | refine Ag ?_ | refine Ah ?_ | refine Ao ?_ | refine Ay ?_ | refine Al 0 ?_ | refine Ab 0 ?_ | refine Ab 1 ?_ | refine As ?_ | refine Aq (fun _ => ?_) | refine Am ?_ | refine Aj ?_ | refine Be ?_ | refine Bf ?_ | refine Ai ?_ | refine Ar ?_ | refine An ?_ | refine Ap ?_ | refine L.call1 2 (byteR_S b s c h16 hs) (by exact rfl) (by exact rfl) (by exact rfl) (fun _ _ => trivial) (by simp only [hset]; rfl) ?_ | refine L.call1 2 (numberR_S 4 (by decide) b s (nx c).2 h16 hs.n1) (by exact rfl) (by exact rfl) (by exact rfl) (fun _ _ => trivial) (by simp only [hset]; rfl) ?_)
  (refine D.ret (vs := [_]) (RV.cellA 1 rfl rfl rfl rfl rfl RV.nil) ?_; intro w' hw; exact Post.mk (is := [2]) hw (by decide) rfl ⟨rfl, rfl⟩)
theorem placeR_i21 (r rm : Int) (hr : Byte r) (hm : Byte rm) (b : Nat) (s : ByteArray) (c : Cur) (h16 : s.size ≤ 1000000) (hs : Suf s c) (hA : rm % 8 = 4) (hI : (nx c).1 / 8 % 8 = 4) (hJ : r / 2 % 2 = 1) (hB : rm / 64 = 1) : Ctr Try.prog 74 [.pointer (some ⟨b, 0, none⟩), .int .i64 r, .int .i64 rm] [(b, cR s c)] tt
    (is (.agg #[.int .i64 (lastD r (nx c).1), .int .i64 (idxD r (nx c).1), .int .i64 (powD ((nx c).1 / 64)), .int .i64 ((numD 1 (nx c).2).1)]) [(b, cR s ((numD 1 (nx c).2).2))]) := by
  have l1 := lastE hr hm
  have hx := hs.byte
  have l2 := lastE hr hx
  have l3 := idxE hr hx
  obtain ⟨p1, p2, p3⟩ := powE hx
  have a1 : cm .eql (ar .rem .i64 rm 8) 4 = true := by rw [remB hm]; exact cm_yes hA
  have a2 : cm .neq (ar .rem .i64 (ar .quo .i64 (nx c).1 8) 8) 4 = false := by rw [quoB hx (by decide), remB (quo_byte hx (by decide))]; exact cmR_ne' hI
  have a3 : cm .eql (ar .rem .i64 (ar .quo .i64 r 2) 2) 1 = true := by rw [quoB hr (by decide), remB (quo_byte hr (by decide))]; exact cm_yes hJ
  have b1 : cm .eql (ar .quo .i64 rm 64) 1 = true := by rw [quoB hm (by decide)]; exact cm_yes hB
  refine Ctr.enter Try.func74 Try.ntmps74 rfl rfl (fun w _ => ?_)
  repeat (first | refine L.convI (hz := p1) (c := ?_) | refine Ao (ho := p3) (hz := p2) ?_ | refine Af ?_ | refine Ac ?_ | refine Aa ?_ | refine Ae ?_ | refine Ad ?_ | refine Ag ?_ | refine Ah ?_ | refine Ao ?_ | refine Ay ?_ | refine Al 0 ?_ | refine Ab 0 ?_ | refine Ab 1 ?_ | refine As ?_ | refine Aq (fun _ => ?_) | refine Am ?_ | refine Ax ?_ | refine Aw ?_ | refine Ai ?_ | refine Ar ?_ | refine An ?_ | refine L.call1 2 (byteR_S b s c h16 hs) (by exact rfl) (by exact rfl) (by exact rfl) (fun _ _ => trivial) (by simp only [hset]; rfl) ?_ | refine L.call1 2 (numberR_S 1 (by decide) b s (nx c).2 h16 hs.n1) (by exact rfl) (by exact rfl) (by exact rfl) (fun _ _ => trivial) (by simp only [hset]; rfl) ?_)
  (refine D.ret (vs := [_]) (RV.cellA 1 rfl rfl rfl rfl rfl RV.nil) ?_; intro w' hw; exact Post.mk (is := [2]) hw (by decide) rfl ⟨rfl, rfl⟩)
theorem placeR_i22 (r rm : Int) (hr : Byte r) (hm : Byte rm) (b : Nat) (s : ByteArray) (c : Cur) (h16 : s.size ≤ 1000000) (hs : Suf s c) (hA : rm % 8 = 4) (hI : (nx c).1 / 8 % 8 = 4) (hJ : r / 2 % 2 = 1) (hB : rm / 64 = 2) : Ctr Try.prog 74 [.pointer (some ⟨b, 0, none⟩), .int .i64 r, .int .i64 rm] [(b, cR s c)] tt
    (is (.agg #[.int .i64 (lastD r (nx c).1), .int .i64 (idxD r (nx c).1), .int .i64 (powD ((nx c).1 / 64)), .int .i64 ((numD 4 (nx c).2).1)]) [(b, cR s ((numD 4 (nx c).2).2))]) := by
  have l1 := lastE hr hm
  have hx := hs.byte
  have l2 := lastE hr hx
  have l3 := idxE hr hx
  obtain ⟨p1, p2, p3⟩ := powE hx
  have a1 : cm .eql (ar .rem .i64 rm 8) 4 = true := by rw [remB hm]; exact cm_yes hA
  have a2 : cm .neq (ar .rem .i64 (ar .quo .i64 (nx c).1 8) 8) 4 = false := by rw [quoB hx (by decide), remB (quo_byte hx (by decide))]; exact cmR_ne' hI
  have a3 : cm .eql (ar .rem .i64 (ar .quo .i64 r 2) 2) 1 = true := by rw [quoB hr (by decide), remB (quo_byte hr (by decide))]; exact cm_yes hJ
  have b1 : cm .eql (ar .quo .i64 rm 64) 1 = false := by rw [quoB hm (by decide)]; exact cm_no (by omega)
  have b2 : cm .eql (ar .quo .i64 rm 64) 2 = true := by rw [quoB hm (by decide)]; exact cm_yes hB
  refine Ctr.enter Try.func74 Try.ntmps74 rfl rfl (fun w _ => ?_)
  repeat (first | refine L.convI (hz := p1) (c := ?_) | refine Ao (ho := p3) (hz := p2) ?_ | refine Af ?_ | refine Ac ?_ | refine Aa ?_ | refine Ae ?_ | refine Ad ?_ | refine Ag ?_ | refine Ah ?_ | refine Ao ?_ | refine Ay ?_ | refine Al 0 ?_ | refine Ab 0 ?_ | refine Ab 1 ?_ | refine As ?_ | refine Aq (fun _ => ?_) | refine Am ?_ | refine Aj ?_ | refine Ax ?_ | refine Aw ?_ | refine Ai ?_ | refine Ar ?_ | refine An ?_ | refine L.call1 2 (byteR_S b s c h16 hs) (by exact rfl) (by exact rfl) (by exact rfl) (fun _ _ => trivial) (by simp only [hset]; rfl) ?_ | refine L.call1 2 (numberR_S 4 (by decide) b s (nx c).2 h16 hs.n1) (by exact rfl) (by exact rfl) (by exact rfl) (fun _ _ => trivial) (by simp only [hset]; rfl) ?_)
  (refine D.ret (vs := [_]) (RV.cellA 1 rfl rfl rfl rfl rfl RV.nil) ?_; intro w' hw; exact Post.mk (is := [2]) hw (by decide) rfl ⟨rfl, rfl⟩)
theorem placeR_i20 (r rm : Int) (hr : Byte r) (hm : Byte rm) (b : Nat) (s : ByteArray) (c : Cur) (h16 : s.size ≤ 1000000) (hs : Suf s c) (hA : rm % 8 = 4) (hI : (nx c).1 / 8 % 8 = 4) (hJ : r / 2 % 2 = 1) (hB : rm / 64 ≠ 1) (hC : rm / 64 ≠ 2) : Ctr Try.prog 74 [.pointer (some ⟨b, 0, none⟩), .int .i64 r, .int .i64 rm] [(b, cR s c)] tt
    (is (.agg #[.int .i64 (lastD r (nx c).1), .int .i64 (idxD r (nx c).1), .int .i64 (powD ((nx c).1 / 64)), .int .i64 (0)]) [(b, cR s ((nx c).2))]) := by
  have l1 := lastE hr hm
  have hx := hs.byte
  have l2 := lastE hr hx
  have l3 := idxE hr hx
  obtain ⟨p1, p2, p3⟩ := powE hx
  have a1 : cm .eql (ar .rem .i64 rm 8) 4 = true := by rw [remB hm]; exact cm_yes hA
  have a2 : cm .neq (ar .rem .i64 (ar .quo .i64 (nx c).1 8) 8) 4 = false := by rw [quoB hx (by decide), remB (quo_byte hx (by decide))]; exact cmR_ne' hI
  have a3 : cm .eql (ar .rem .i64 (ar .quo .i64 r 2) 2) 1 = true := by rw [quoB hr (by decide), remB (quo_byte hr (by decide))]; exact cm_yes hJ
  have b1 : cm .eql (ar .quo .i64 rm 64) 1 = false := by rw [quoB hm (by decide)]; exact cm_no hB
  have b2 : cm .eql (ar .quo .i64 rm 64) 2 = false := by rw [quoB hm (by decide)]; exact cm_no hC
  refine Ctr.enter Try.func74 Try.ntmps74 rfl rfl (fun w _ => ?_)
  repeat (first | refine L.convI (hz := p1) (c := ?_) | refine Ao (ho := p3) (hz := p2) ?_ | refine Af ?_ | refine Ac ?_ | refine Aa ?_ | refine Ae ?_ | refine Ad ?_ | refine Ag ?_ | refine Ah ?_ | refine Ao ?_ | refine Ay ?_ | refine Al 0 ?_ | refine Ab 0 ?_ | refine Ab 1 ?_ | refine As ?_ | refine Aq (fun _ => ?_) | refine Am ?_ | refine Aj ?_ | refine Ax ?_ | refine Aw ?_ | refine Ai ?_ | refine Ar ?_ | refine An ?_ | refine Ap ?_ | refine L.call1 2 (byteR_S b s c h16 hs) (by exact rfl) (by exact rfl) (by exact rfl) (fun _ _ => trivial) (by simp only [hset]; rfl) ?_ | refine L.call1 2 (numberR_S 4 (by decide) b s (nx c).2 h16 hs.n1) (by exact rfl) (by exact rfl) (by exact rfl) (fun _ _ => trivial) (by simp only [hset]; rfl) ?_)
  (refine D.ret (vs := [_]) (RV.cellA 1 rfl rfl rfl rfl rfl RV.nil) ?_; intro w' hw; exact Post.mk (is := [2]) hw (by decide) rfl ⟨rfl, rfl⟩)
theorem placeR_i41 (r rm : Int) (hr : Byte r) (hm : Byte rm) (b : Nat) (s : ByteArray) (c : Cur) (h16 : s.size ≤ 1000000) (hs : Suf s c) (hA : rm % 8 = 4) (hI : (nx c).1 / 8 % 8 = 4) (hJ : r / 2 % 2 ≠ 1) (hB : rm / 64 = 1) : Ctr Try.prog 74 [.pointer (some ⟨b, 0, none⟩), .int .i64 r, .int .i64 rm] [(b, cR s c)] tt
    (is (.agg #[.int .i64 (lastD r (nx c).1), .int .i64 (-1), .int .i64 (1), .int .i64 ((numD 1 (nx c).2).1)]) [(b, cR s ((numD 1 (nx c).2).2))]) := by
  have l1 := lastE hr hm
  have hx := hs.byte
  have l2 := lastE hr hx
  have l3 := idxE hr hx
  obtain ⟨p1, p2, p3⟩ := powE hx
  have a1 : cm .eql (ar .rem .i64 rm 8) 4 = true := by rw [remB hm]; exact cm_yes hA
  have a2 : cm .neq (ar .rem .i64 (ar .quo .i64 (nx c).1 8) 8) 4 = false := by rw [quoB hx (by decide), remB (quo_byte hx (by decide))]; exact cmR_ne' hI
  have a3 : cm .eql (ar .rem .i64 (ar .quo .i64 r 2) 2) 1 = false := by rw [quoB hr (by decide), remB (quo_byte hr (by decide))]; exact cm_no hJ
  have b1 : cm .eql (ar .quo .i64 rm 64) 1 = true := by rw [quoB hm (by decide)]; exact cm_yes hB
  refine Ctr.enter Try.func74 Try.ntmps74 rfl rfl (fun w _ => ?_)
  repeat (first | refine L.convI (hz := p1) (c := ?_) | refine Ao (ho := p3) (hz := p2) ?_ | refine Af ?_ | refine Ac ?_ | refine Aa ?_ | refine Ae ?_ | refine Ad ?_ | refine Ag ?_ | refine Ah ?_ | refine Ao ?_ | refine Ay ?_ | refine Al 0 ?_ | refine Ab 0 ?_ | refine Ab 1 ?_ | refine As ?_ | refine Aq (fun _ => ?_) | refine Am ?_ | refine Aj ?_ | refine Ax ?_ | refine Aw ?_ | refine Ai ?_ | refine Ar ?_ | refine An ?_ | refine Ap ?_ | refine L.call1 2 (byteR_S b s c h16 hs) (by exact rfl) (by exact rfl) (by exact rfl) (fun _ _ => trivial) (by simp only [hset]; rfl) ?_ | refine L.call1 2 (numberR_S 1 (by decide) b s (nx c).2 h16 hs.n1) (by exact rfl) (by exact rfl) (by exact rfl) (fun _ _ => trivial) (by simp only [hset]; rfl) ?_)
  (refine D.ret (vs := [_]) (RV.cellA 1 rfl rfl rfl rfl rfl RV.nil) ?_; intro w' hw; exact Post.mk (is := [2]) hw (by decide) rfl ⟨rfl, rfl⟩)
theorem placeR_i42 (r rm : Int) (hr : Byte r) (hm : Byte rm) (b : Nat) (s : ByteArray) (c : Cur) (h16 : s.size ≤ 1000000) (hs : Suf s c) (hA : rm % 8 = 4) (hI : (nx c).1 / 8 % 8 = 4) (hJ : r / 2 % 2 ≠ 1) (hB : rm / 64 = 2) : Ctr Try.prog 74 [.pointer (some ⟨b, 0, none⟩), .int .i64 r, .int .i64 rm] [(b, cR s c)] tt
    (is (.agg #[.int .i64 (lastD r (nx c).1), .int .i64 (-1), .int .i64 (1), .int .i64 ((numD 4 (nx c).2).1)]) [(b, cR s ((numD 4 (nx c).2).2))]) := by
  have l1 := lastE hr hm
  have hx := hs.byte
  have l2 := lastE hr hx
  have l3 := idxE hr hx
  obtain ⟨p1, p2, p3⟩ := powE hx
  have a1 : cm .eql (ar .rem .i64 rm 8) 4 = true := by rw [remB hm]; exact cm_yes hA
  have a2 : cm .neq (ar .rem .i64 (ar .quo .i64 (nx c).1 8) 8) 4 = false := by rw [quoB hx (by decide), remB (quo_byte hx (by decide))]; exact cmR_ne' hI
  have a3 : cm .eql (ar .rem .i64 (ar .quo .i64 r 2) 2) 1 = false := by rw [quoB hr (by decide), remB (quo_byte hr (by decide))]; exact cm_no hJ
  have b1 : cm .eql (ar .quo .i64 rm 64) 1 = false := by rw [quoB hm (by decide)]; exact cm_no (by omega)
  have b2 : cm .eql (ar .quo .i64 rm 64) 2 = true := by rw [quoB hm (by decide)]; exact cm_yes hB
  refine Ctr.enter Try.func74 Try.ntmps74 rfl rfl (fun w _ => ?_)
  repeat (first | refine L.convI (hz := p1) (c := ?_) | refine Ao (ho := p3) (hz := p2) ?_ | refine Af ?_ | refine Ac ?_ | refine Aa ?_ | refine Ae ?_ | refine Ad ?_ | refine Ag ?_ | refine Ah ?_ | refine Ao ?_ | refine Ay ?_ | refine Al 0 ?_ | refine Ab 0 ?_ | refine Ab 1 ?_ | refine As ?_ | refine Aq (fun _ => ?_) | refine Am ?_ | refine Aj ?_ | refine Ax ?_ | refine Aw ?_ | refine Ai ?_ | refine Ar ?_ | refine An ?_ | refine Ap ?_ | refine L.call1 2 (byteR_S b s c h16 hs) (by exact rfl) (by exact rfl) (by exact rfl) (fun _ _ => trivial) (by simp only [hset]; rfl) ?_ | refine L.call1 2 (numberR_S 4 (by decide) b s (nx c).2 h16 hs.n1) (by exact rfl) (by exact rfl) (by exact rfl) (fun _ _ => trivial) (by simp only [hset]; rfl) ?_)
  (refine D.ret (vs := [_]) (RV.cellA 1 rfl rfl rfl rfl rfl RV.nil) ?_; intro w' hw; exact Post.mk (is := [2]) hw (by decide) rfl ⟨rfl, rfl⟩)
theorem placeR_i40 (r rm : Int) (hr : Byte r) (hm : Byte rm) (b : Nat) (s : ByteArray) (c : Cur) (h16 : s.size ≤ 1000000) (hs : Suf s c) (hA : rm % 8 = 4) (hI : (nx c).1 / 8 % 8 = 4) (hJ : r / 2 % 2 ≠ 1) (hB : rm / 64 ≠ 1) (hC : rm / 64 ≠ 2) : Ctr Try.prog 74 [.pointer (some ⟨b, 0, none⟩), .int .i64 r, .int .i64 rm] [(b, cR s c)] tt
    (is (.agg #[.int .i64 (lastD r (nx c).1), .int .i64 (-1), .int .i64 (1), .int .i64 (0)]) [(b, cR s ((nx c).2))]) := by
  have l1 := lastE hr hm
  have hx := hs.byte
  have l2 := lastE hr hx
  have l3 := idxE hr hx
  obtain ⟨p1, p2, p3⟩ := powE hx
  have a1 : cm .eql (ar .rem .i64 rm 8) 4 = true := by rw [remB hm]; exact cm_yes hA
  have a2 : cm .neq (ar .rem .i64 (ar .quo .i64 (nx c).1 8) 8) 4 = false := by rw [quoB hx (by decide), remB (quo_byte hx (by decide))]; exact cmR_ne' hI
  have a3 : cm .eql (ar .rem .i64 (ar .quo .i64 r 2) 2) 1 = false := by rw [quoB hr (by decide), remB (quo_byte hr (by decide))]; exact cm_no hJ
  have b1 : cm .eql (ar .quo .i64 rm 64) 1 = false := by rw [quoB hm (by decide)]; exact cm_no hB
  have b2 : cm .eql (ar .quo .i64 rm 64) 2 = false := by rw [quoB hm (by decide)]; exact cm_no hC
  refine Ctr.enter Try.func74 Try.ntmps74 rfl rfl (fun w _ => ?_)
  repeat (first | refine L.convI (hz := p1) (c := ?_) | refine Ao (ho := p3) (hz := p2) ?_ | refine Af ?_ | refine Ac ?_ | refine Aa ?_ | refine Ae ?_ | refine Ad ?_ | refine Ag ?_ | refine Ah ?_ | refine Ao ?_ | refine Ay ?_ | refine Al 0 ?_ | refine Ab 0 ?_ | refine Ab 1 ?_ | refine As ?_ | refine Aq (fun _ => ?_) | refine Am ?_ | refine Aj ?_ | refine Ax ?_ | refine Aw ?_ | refine Ai ?_ | refine Ar ?_ | refine An ?_ | refine Ap ?_ | refine L.call1 2 (byteR_S b s c h16 hs) (by exact rfl) (by exact rfl) (by exact rfl) (fun _ _ => trivial) (by simp only [hset]; rfl) ?_ | refine L.call1 2 (numberR_S 4 (by decide) b s (nx c).2 h16 hs.n1) (by exact rfl) (by exact rfl) (by exact rfl) (fun _ _ => trivial) (by simp only [hset]; rfl) ?_)
  (refine D.ret (vs := [_]) (RV.cellA 1 rfl rfl rfl rfl rfl RV.nil) ?_; intro w' hw; exact Post.mk (is := [2]) hw (by decide) rfl ⟨rfl, rfl⟩)
theorem placeR_S (r rm : Int) (hr : Byte r) (hm : Byte rm) (b : Nat) (s : ByteArray) (c : Cur) (h16 : s.size ≤ 1000000) (hs : Suf s c) : Ctr Try.prog 74 [.pointer (some ⟨b, 0, none⟩), .int .i64 r, .int .i64 rm] [(b, cR s c)] tt
    (is (.agg #[.int .i64 (sibD r rm c).1.1, .int .i64 (sibD r rm c).1.2.1, .int .i64 (sibD r rm c).1.2.2, .int .i64 (dispD rm (sibD r rm c).2).1]) [(b, cR s (dispD rm (sibD r rm c).2).2)]) := by
  have hx := hs.byte
  have hx1 := hx.1
  have hx2 := hx.2
  have hr1 := hr.1
  have hr2 := hr.2
  by_cases hA : rm % 8 = 4
  · by_cases hI : (nx c).1 / 8 % 8 = 4
    · by_cases hJ : r / 2 % 2 = 1
      · have e1 : sibD r rm c = ((lastD r (nx c).1, idxD r (nx c).1, powD ((nx c).1 / 64)), (nx c).2) := by
          unfold sibD; rw [if_pos hA, if_neg (by unfold idxD; omega), if_neg (by unfold idxD; omega)]
        rw [e1]
        unfold dispD
        by_cases hB : rm / 64 = 1
        · rw [if_pos hB]; exact placeR_i21 r rm hr hm b s c h16 hs hA hI hJ hB
        · rw [if_neg hB]
          by_cases hC : rm / 64 = 2
          · rw [if_pos hC]; exact placeR_i22 r rm hr hm b s c h16 hs hA hI hJ hC
          · rw [if_neg hC]; exact placeR_i20 r rm hr hm b s c h16 hs hA hI hJ hB hC
      · have e1 : sibD r rm c = ((lastD r (nx c).1, -1, 1), (nx c).2) := by
          unfold sibD; rw [if_pos hA, if_pos (by unfold idxD; omega), if_pos (by unfold idxD; omega)]
        rw [e1]
        unfold dispD
        by_cases hB : rm / 64 = 1
        · rw [if_pos hB]; exact placeR_i41 r rm hr hm b s c h16 hs hA hI hJ hB
        · rw [if_neg hB]
          by_cases hC : rm / 64 = 2
          · rw [if_pos hC]; exact placeR_i42 r rm hr hm b s c h16 hs hA hI hJ hC
          · rw [if_neg hC]; exact placeR_i40 r rm hr hm b s c h16 hs hA hI hJ hB hC
    · have e1 : sibD r rm c = ((lastD r (nx c).1, idxD r (nx c).1, powD ((nx c).1 / 64)), (nx c).2) := by
        unfold sibD; rw [if_pos hA, if_neg (by unfold idxD; omega), if_neg (by unfold idxD; omega)]
      rw [e1]
      unfold dispD
      by_cases hB : rm / 64 = 1
      · rw [if_pos hB]; exact placeR_i11 r rm hr hm b s c h16 hs hA hI hB
      · rw [if_neg hB]
        by_cases hC : rm / 64 = 2
        · rw [if_pos hC]; exact placeR_i12 r rm hr hm b s c h16 hs hA hI hC
        · rw [if_neg hC]; exact placeR_i10 r rm hr hm b s c h16 hs hA hI hB hC
  · have e1 : sibD r rm c = ((lastD r rm, -1, 1), c) := by unfold sibD; rw [if_neg hA]
    rw [e1]
    unfold dispD
    by_cases hB : rm / 64 = 1
    · rw [if_pos hB]; exact placeR_no1 r rm hr hm b s c h16 hs hA hB
    · rw [if_neg hB]
      by_cases hC : rm / 64 = 2
      · rw [if_pos hC]; exact placeR_no2 r rm hr hm b s c h16 hs hA hC
      · rw [if_neg hC]; exact placeR_no0 r rm hr hm b s c h16 hs hA hB hC
end Go.Proofs.Ytbcaelhchmoigaa
