import Derived.Test.YtbcaelhchmoigaaRcB
set_option maxHeartbeats 4000000
set_option linter.unusedVariables false
set_option linter.unusedSimpArgs false
namespace Go.Proofs.Ytbcaelhchmoigaa
open Go.RowKit Calm SL
attribute [local irreducible] SL.L SL.C SL.D SL.N SL.H
def rrM (b : Int) : Int := if b = 137 then 1 else pairOp b
theorem rr_S (b : Int) : Ctr Try.prog 75 [.int .i64 b] [] tt (is (.int .i64 (rrM b)) []) := by
  by_cases h137 : b = 137
  · subst h137
    have e : rrM 137 = 1 := by decide
    rw [e]
    refine Ctr.enter Try.func75 Try.ntmps75 rfl rfl (fun w _ => ?_)
    repeat (first | refine Af ?_ | refine Ac ?_ | refine Aa ?_ | refine Ae ?_ | refine Ad ?_ | refine Ag ?_ | refine Ah ?_ | refine Am ?_ | refine Ai ?_ | refine An ?_ | refine Av ?_ | refine Bb ?_)
    (refine D.ret (vs := [_]) (RV.tmp rfl RV.nil) ?_; intro w' hw; exact Post.mk (is := []) hw (by decide) rfl ⟨rfl, rfl⟩)
  by_cases h1 : b = 1
  · subst h1
    have e : rrM 1 = 6 := by decide
    rw [e]
    refine Ctr.enter Try.func75 Try.ntmps75 rfl rfl (fun w _ => ?_)
    repeat (first | refine Af ?_ | refine Ac ?_ | refine Aa ?_ | refine Ae ?_ | refine Ad ?_ | refine Ag ?_ | refine Ah ?_ | refine Am ?_ | refine Aj ?_ | refine Ai ?_ | refine An ?_ | refine Av ?_ | refine Bb ?_)
    (refine D.ret (vs := [_]) (RV.tmp rfl RV.nil) ?_; intro w' hw; exact Post.mk (is := []) hw (by decide) rfl ⟨rfl, rfl⟩)
  by_cases h17 : b = 17
  · subst h17
    have e : rrM 17 = 7 := by decide
    rw [e]
    refine Ctr.enter Try.func75 Try.ntmps75 rfl rfl (fun w _ => ?_)
    repeat (first | refine Af ?_ | refine Ac ?_ | refine Aa ?_ | refine Ae ?_ | refine Ad ?_ | refine Ag ?_ | refine Ah ?_ | refine Am ?_ | refine Aj ?_ | refine Ai ?_ | refine An ?_ | refine Av ?_ | refine Bb ?_)
    (refine D.ret (vs := [_]) (RV.tmp rfl RV.nil) ?_; intro w' hw; exact Post.mk (is := []) hw (by decide) rfl ⟨rfl, rfl⟩)
  by_cases h41 : b = 41
  · subst h41
    have e : rrM 41 = 8 := by decide
    rw [e]
    refine Ctr.enter Try.func75 Try.ntmps75 rfl rfl (fun w _ => ?_)
    repeat (first | refine Af ?_ | refine Ac ?_ | refine Aa ?_ | refine Ae ?_ | refine Ad ?_ | refine Ag ?_ | refine Ah ?_ | refine Am ?_ | refine Aj ?_ | refine Ai ?_ | refine An ?_ | refine Av ?_ | refine Bb ?_)
    (refine D.ret (vs := [_]) (RV.tmp rfl RV.nil) ?_; intro w' hw; exact Post.mk (is := []) hw (by decide) rfl ⟨rfl, rfl⟩)
  by_cases h25 : b = 25
  · subst h25
    have e : rrM 25 = 9 := by decide
    rw [e]
    refine Ctr.enter Try.func75 Try.ntmps75 rfl rfl (fun w _ => ?_)
    repeat (first | refine Af ?_ | refine Ac ?_ | refine Aa ?_ | refine Ae ?_ | refine Ad ?_ | refine Ag ?_ | refine Ah ?_ | refine Am ?_ | refine Aj ?_ | refine Ai ?_ | refine An ?_ | refine Av ?_ | refine Bb ?_)
    (refine D.ret (vs := [_]) (RV.tmp rfl RV.nil) ?_; intro w' hw; exact Post.mk (is := []) hw (by decide) rfl ⟨rfl, rfl⟩)
  by_cases h33 : b = 33
  · subst h33
    have e : rrM 33 = 10 := by decide
    rw [e]
    refine Ctr.enter Try.func75 Try.ntmps75 rfl rfl (fun w _ => ?_)
    repeat (first | refine Af ?_ | refine Ac ?_ | refine Aa ?_ | refine Ae ?_ | refine Ad ?_ | refine Ag ?_ | refine Ah ?_ | refine Am ?_ | refine Aj ?_ | refine Ai ?_ | refine An ?_ | refine Av ?_ | refine Bb ?_)
    (refine D.ret (vs := [_]) (RV.tmp rfl RV.nil) ?_; intro w' hw; exact Post.mk (is := []) hw (by decide) rfl ⟨rfl, rfl⟩)
  by_cases h9 : b = 9
  · subst h9
    have e : rrM 9 = 11 := by decide
    rw [e]
    refine Ctr.enter Try.func75 Try.ntmps75 rfl rfl (fun w _ => ?_)
    repeat (first | refine Af ?_ | refine Ac ?_ | refine Aa ?_ | refine Ae ?_ | refine Ad ?_ | refine Ag ?_ | refine Ah ?_ | refine Am ?_ | refine Aj ?_ | refine Ai ?_ | refine An ?_ | refine Av ?_ | refine Bb ?_)
    (refine D.ret (vs := [_]) (RV.tmp rfl RV.nil) ?_; intro w' hw; exact Post.mk (is := []) hw (by decide) rfl ⟨rfl, rfl⟩)
  by_cases h49 : b = 49
  · subst h49
    have e : rrM 49 = 12 := by decide
    rw [e]
    refine Ctr.enter Try.func75 Try.ntmps75 rfl rfl (fun w _ => ?_)
    repeat (first | refine Af ?_ | refine Ac ?_ | refine Aa ?_ | refine Ae ?_ | refine Ad ?_ | refine Ag ?_ | refine Ah ?_ | refine Am ?_ | refine Aj ?_ | refine Ai ?_ | refine An ?_ | refine Av ?_ | refine Bb ?_)
    (refine D.ret (vs := [_]) (RV.tmp rfl RV.nil) ?_; intro w' hw; exact Post.mk (is := []) hw (by decide) rfl ⟨rfl, rfl⟩)
  by_cases h57 : b = 57
  · subst h57
    have e : rrM 57 = 13 := by decide
    rw [e]
    refine Ctr.enter Try.func75 Try.ntmps75 rfl rfl (fun w _ => ?_)
    repeat (first | refine Af ?_ | refine Ac ?_ | refine Aa ?_ | refine Ae ?_ | refine Ad ?_ | refine Ag ?_ | refine Ah ?_ | refine Am ?_ | refine Aj ?_ | refine Ai ?_ | refine An ?_ | refine Av ?_ | refine Bb ?_)
    (refine D.ret (vs := [_]) (RV.tmp rfl RV.nil) ?_; intro w' hw; exact Post.mk (is := []) hw (by decide) rfl ⟨rfl, rfl⟩)
  by_cases h133 : b = 133
  · subst h133
    have e : rrM 133 = 14 := by decide
    rw [e]
    refine Ctr.enter Try.func75 Try.ntmps75 rfl rfl (fun w _ => ?_)
    repeat (first | refine Af ?_ | refine Ac ?_ | refine Aa ?_ | refine Ae ?_ | refine Ad ?_ | refine Ag ?_ | refine Ah ?_ | refine Am ?_ | refine Aj ?_ | refine Ai ?_ | refine An ?_ | refine Av ?_ | refine Bb ?_)
    (refine D.ret (vs := [_]) (RV.tmp rfl RV.nil) ?_; intro w' hw; exact Post.mk (is := []) hw (by decide) rfl ⟨rfl, rfl⟩)
  have c137 : cm .eql b 137 = false := cm_no h137
  have c1 : cm .eql b 1 = false := cm_no h1
  have c17 : cm .eql b 17 = false := cm_no h17
  have c41 : cm .eql b 41 = false := cm_no h41
  have c25 : cm .eql b 25 = false := cm_no h25
  have c33 : cm .eql b 33 = false := cm_no h33
  have c9 : cm .eql b 9 = false := cm_no h9
  have c49 : cm .eql b 49 = false := cm_no h49
  have c57 : cm .eql b 57 = false := cm_no h57
  have c133 : cm .eql b 133 = false := cm_no h133
  have e : rrM b = 0 := by unfold rrM pairOp; simp [h137, h1, h17, h41, h25, h33, h9, h49, h57, h133]
  rw [e]
  refine Ctr.enter Try.func75 Try.ntmps75 rfl rfl (fun w _ => ?_)
  repeat (first | refine Af ?_ | refine Ac ?_ | refine Aa ?_ | refine Ae ?_ | refine Ad ?_ | refine Ag ?_ | refine Ah ?_ | refine Aj ?_ | refine Ai ?_ | refine Ar ?_ | refine An ?_ | refine Ap ?_)
  (refine D.ret (vs := [_]) (RV.tmp rfl RV.nil) ?_; intro w' hw; exact Post.mk (is := []) hw (by decide) rfl ⟨rfl, rfl⟩)
theorem wideR_imm (r : Int) (hr : Byte r) (b : Nat) (s : ByteArray) (c : Cur) (h16 : s.size ≤ 1000000) (hs : Suf s c) (h : (nx c).1 / 8 = 23) : Ctr Try.prog 46 [.pointer (some ⟨b, 0, none⟩), .int .i64 r] [(b, cR s c)] tt
    (is (Ins.V ⟨2, lastD r (nx c).1, 0, 0, 0, 0, 0, 0, (numD 8 (nx c).2).1⟩) [(b, cR s ((numD 8 (nx c).2).2))]) := by
  have hb := hs.byte
  have hm := hs.n1.byte
  have hm3 := hs.n1.n1.byte
  have l1 := lastE hr hb
  have l2 := lastE hr hm
  have l3 := lastE hr hm3
  have m2 := midE hr hm
  have m3 := midE hr hm3
  have f0 : cm .geq (nx c).1 184 = true := cmR_ge (by omega)
  have f1 : cm .lss (nx c).1 192 = true := cmR_lo (by omega)
  refine Ctr.enter Try.func46 Try.ntmps46 rfl rfl (fun w _ => ?_)
  repeat (first | refine Af ?_ | refine Ac ?_ | refine Aa ?_ | refine Ae ?_ | refine Ad ?_ | refine Ag ?_ | refine Ah ?_ | refine Ao ?_ | refine Ab 0 ?_ | refine As ?_ | refine Aq (fun _ => ?_) | refine Am ?_ | refine Be ?_ | refine Aw ?_ | refine An ?_ | refine Av ?_ | refine L.call1 1 (byteR_S b s c h16 hs) (by exact rfl) (by exact rfl) (by exact rfl) (fun _ _ => trivial) (by simp only [hset]; rfl) ?_ | refine L.call1 1 (byteR_S b s (nx c).2 h16 hs.n1) (by exact rfl) (by exact rfl) (by exact rfl) (fun _ _ => trivial) (by simp only [hset]; rfl) ?_ | refine L.call1 1 (byteR_S b s (nx (nx c).2).2 h16 hs.n1.n1) (by exact rfl) (by exact rfl) (by exact rfl) (fun _ _ => trivial) (by simp only [hset]; rfl) ?_ | refine L.call1 1 (numberR_S 8 (by decide) b s (nx c).2 h16 hs.n1) (by exact rfl) (by exact rfl) (by exact rfl) (fun _ _ => trivial) (by simp only [hset]; rfl) ?_)
  (refine D.ret (vs := [_]) (RV.cellA 0 rfl rfl rfl rfl rfl RV.nil) ?_; intro w' hw; exact Post.mk (is := [1]) hw (by decide) rfl ⟨rfl, rfl⟩)
theorem wideR_cmov66 (r : Int) (hr : Byte r) (b : Nat) (s : ByteArray) (c : Cur) (h16 : s.size ≤ 1000000) (hs : Suf s c) (h : (nx c).1 = 15) (hx : (nx (nx c).2).1 = 66) : Ctr Try.prog 46 [.pointer (some ⟨b, 0, none⟩), .int .i64 r] [(b, cR s c)] tt
    (is (Ins.V ⟨26, (midD r (nx (nx (nx c).2).2).1), lastD r (nx (nx (nx c).2).2).1, 0, 0, 0, 0, 0, 0⟩) [(b, cR s ((nx (nx (nx c).2).2).2))]) := by
  have hb := hs.byte
  have hm := hs.n1.byte
  have hm3 := hs.n1.n1.byte
  have l1 := lastE hr hb
  have l2 := lastE hr hm
  have l3 := lastE hr hm3
  have m2 := midE hr hm
  have m3 := midE hr hm3
  have f0 : cm .geq (nx c).1 184 = false := cmR_ge' (by omega)
  have f1 : cm .eql (nx c).1 15 = true := cm_yes (by omega)
  have f2 : cm .eql (nx (nx c).2).1 66 = true := cm_yes (by omega)
  refine Ctr.enter Try.func46 Try.ntmps46 rfl rfl (fun w _ => ?_)
  repeat (first | refine Af ?_ | refine Ac ?_ | refine Aa ?_ | refine Ae ?_ | refine Ad ?_ | refine Ag ?_ | refine Ah ?_ | refine Ao ?_ | refine Ab 0 ?_ | refine As ?_ | refine Aq (fun _ => ?_) | refine Am ?_ | refine Aj ?_ | refine Ax ?_ | refine Bf ?_ | refine Ai ?_ | refine Ar ?_ | refine An ?_ | refine Av ?_ | refine Ap ?_ | refine L.call1 1 (byteR_S b s c h16 hs) (by exact rfl) (by exact rfl) (by exact rfl) (fun _ _ => trivial) (by simp only [hset]; rfl) ?_ | refine L.call1 1 (byteR_S b s (nx c).2 h16 hs.n1) (by exact rfl) (by exact rfl) (by exact rfl) (fun _ _ => trivial) (by simp only [hset]; rfl) ?_ | refine L.call1 1 (byteR_S b s (nx (nx c).2).2 h16 hs.n1.n1) (by exact rfl) (by exact rfl) (by exact rfl) (fun _ _ => trivial) (by simp only [hset]; rfl) ?_)
  (refine D.ret (vs := [_]) (RV.cellA 0 rfl rfl rfl rfl rfl RV.nil) ?_; intro w' hw; exact Post.mk (is := [1]) hw (by decide) rfl ⟨rfl, rfl⟩)
theorem wideR_cmov69 (r : Int) (hr : Byte r) (b : Nat) (s : ByteArray) (c : Cur) (h16 : s.size ≤ 1000000) (hs : Suf s c) (h : (nx c).1 = 15) (hx : (nx (nx c).2).1 = 69) : Ctr Try.prog 46 [.pointer (some ⟨b, 0, none⟩), .int .i64 r] [(b, cR s c)] tt
    (is (Ins.V ⟨27, (midD r (nx (nx (nx c).2).2).1), lastD r (nx (nx (nx c).2).2).1, 0, 0, 0, 0, 0, 0⟩) [(b, cR s ((nx (nx (nx c).2).2).2))]) := by
  have hb := hs.byte
  have hm := hs.n1.byte
  have hm3 := hs.n1.n1.byte
  have l1 := lastE hr hb
  have l2 := lastE hr hm
  have l3 := lastE hr hm3
  have m2 := midE hr hm
  have m3 := midE hr hm3
  have f0 : cm .geq (nx c).1 184 = false := cmR_ge' (by omega)
  have f1 : cm .eql (nx c).1 15 = true := cm_yes (by omega)
  have f2 : cm .eql (nx (nx c).2).1 66 = false := cm_no (by omega)
  have f3 : cm .eql (nx (nx c).2).1 69 = true := cm_yes (by omega)
  refine Ctr.enter Try.func46 Try.ntmps46 rfl rfl (fun w _ => ?_)
  repeat (first | refine Af ?_ | refine Ac ?_ | refine Aa ?_ | refine Ae ?_ | refine Ad ?_ | refine Ag ?_ | refine Ah ?_ | refine Ao ?_ | refine Ab 0 ?_ | refine As ?_ | refine Aq (fun _ => ?_) | refine Am ?_ | refine Aj ?_ | refine Ax ?_ | refine Bf ?_ | refine Ai ?_ | refine Ar ?_ | refine An ?_ | refine Av ?_ | refine Ap ?_ | refine L.call1 1 (byteR_S b s c h16 hs) (by exact rfl) (by exact rfl) (by exact rfl) (fun _ _ => trivial) (by simp only [hset]; rfl) ?_ | refine L.call1 1 (byteR_S b s (nx c).2 h16 hs.n1) (by exact rfl) (by exact rfl) (by exact rfl) (fun _ _ => trivial) (by simp only [hset]; rfl) ?_ | refine L.call1 1 (byteR_S b s (nx (nx c).2).2 h16 hs.n1.n1) (by exact rfl) (by exact rfl) (by exact rfl) (fun _ _ => trivial) (by simp only [hset]; rfl) ?_)
  (refine D.ret (vs := [_]) (RV.cellA 0 rfl rfl rfl rfl rfl RV.nil) ?_; intro w' hw; exact Post.mk (is := [1]) hw (by decide) rfl ⟨rfl, rfl⟩)
theorem wideR_cmov0 (r : Int) (hr : Byte r) (b : Nat) (s : ByteArray) (c : Cur) (h16 : s.size ≤ 1000000) (hs : Suf s c) (h : (nx c).1 = 15) (h1 : (nx (nx c).2).1 ≠ 66) (h2 : (nx (nx c).2).1 ≠ 69) : Ctr Try.prog 46 [.pointer (some ⟨b, 0, none⟩), .int .i64 r] [(b, cR s c)] tt
    (is (Ins.V ⟨0, (midD r (nx (nx (nx c).2).2).1), lastD r (nx (nx (nx c).2).2).1, 0, 0, 0, 0, 0, 0⟩) [(b, cR s ((nx (nx (nx c).2).2).2))]) := by
  have hb := hs.byte
  have hm := hs.n1.byte
  have hm3 := hs.n1.n1.byte
  have l1 := lastE hr hb
  have l2 := lastE hr hm
  have l3 := lastE hr hm3
  have m2 := midE hr hm
  have m3 := midE hr hm3
  have f0 : cm .geq (nx c).1 184 = false := cmR_ge' (by omega)
  have f1 : cm .eql (nx c).1 15 = true := cm_yes (by omega)
  have f2 : cm .eql (nx (nx c).2).1 66 = false := cm_no (by omega)
  have f3 : cm .eql (nx (nx c).2).1 69 = false := cm_no (by omega)
  refine Ctr.enter Try.func46 Try.ntmps46 rfl rfl (fun w _ => ?_)
  repeat (first | refine Af ?_ | refine Ac ?_ | refine Aa ?_ | refine Ae ?_ | refine Ad ?_ | refine Ag ?_ | refine Ah ?_ | refine Ao ?_ | refine Ab 0 ?_ | refine As ?_ | refine Aq (fun _ => ?_) | refine Am ?_ | refine Aj ?_ | refine Ax ?_ | refine Bf ?_ | refine Ai ?_ | refine Ar ?_ | refine An ?_ | refine Av ?_ | refine Ap ?_ | refine L.call1 1 (byteR_S b s c h16 hs) (by exact rfl) (by exact rfl) (by exact rfl) (fun _ _ => trivial) (by simp only [hset]; rfl) ?_ | refine L.call1 1 (byteR_S b s (nx c).2 h16 hs.n1) (by exact rfl) (by exact rfl) (by exact rfl) (fun _ _ => trivial) (by simp only [hset]; rfl) ?_ | refine L.call1 1 (byteR_S b s (nx (nx c).2).2 h16 hs.n1.n1) (by exact rfl) (by exact rfl) (by exact rfl) (fun _ _ => trivial) (by simp only [hset]; rfl) ?_)
  (refine D.ret (vs := [_]) (RV.cellA 0 rfl rfl rfl rfl rfl RV.nil) ?_; intro w' hw; exact Post.mk (is := [1]) hw (by decide) rfl ⟨rfl, rfl⟩)
theorem wideR_load (r : Int) (hr : Byte r) (b : Nat) (s : ByteArray) (c : Cur) (h16 : s.size ≤ 1000000) (hs : Suf s c) (h : (nx c).1 = 139) : Ctr Try.prog 46 [.pointer (some ⟨b, 0, none⟩), .int .i64 r] [(b, cR s c)] tt
    (is (Ins.V ⟨3, (midD r (nx (nx c).2).1), 0, 0, (sibD r (nx (nx c).2).1 (nx (nx c).2).2).1.1, (sibD r (nx (nx c).2).1 (nx (nx c).2).2).1.2.1, (sibD r (nx (nx c).2).1 (nx (nx c).2).2).1.2.2, (dispD (nx (nx c).2).1 (sibD r (nx (nx c).2).1 (nx (nx c).2).2).2).1, 0⟩) [(b, cR s ((dispD (nx (nx c).2).1 (sibD r (nx (nx c).2).1 (nx (nx c).2).2).2).2))]) := by
  have hb := hs.byte
  have hm := hs.n1.byte
  have hm3 := hs.n1.n1.byte
  have l1 := lastE hr hb
  have l2 := lastE hr hm
  have l3 := lastE hr hm3
  have m2 := midE hr hm
  have m3 := midE hr hm3
  have f0 : cm .geq (nx c).1 184 = false := cmR_ge' (by omega)
  have f1 : cm .eql (nx c).1 15 = false := cm_no (by omega)
  have f2 : cm .eql (nx c).1 139 = true := cm_yes (by omega)
  refine Ctr.enter Try.func46 Try.ntmps46 rfl rfl (fun w _ => ?_)
  repeat (first | refine Af ?_ | refine Ac ?_ | refine Aa ?_ | refine Ae ?_ | refine Ad ?_ | refine Ag ?_ | refine Ah ?_ | refine Ao ?_ | refine Al 0 ?_ | refine Ab 0 ?_ | refine Ab 1 ?_ | refine As ?_ | refine Aq (fun _ => ?_) | refine Am ?_ | refine Aj ?_ | refine Be ?_ | refine Ax ?_ | refine Bf ?_ | refine Ai ?_ | refine An ?_ | refine Av ?_ | refine Bb ?_ | refine Ap ?_ | refine L.passU (k := ?_) | refine L.call1 1 (byteR_S b s c h16 hs) (by exact rfl) (by exact rfl) (by exact rfl) (fun _ _ => trivial) (by simp only [hset]; rfl) ?_ | refine L.call1 1 (byteR_S b s (nx c).2 h16 hs.n1) (by exact rfl) (by exact rfl) (by exact rfl) (fun _ _ => trivial) (by simp only [hset]; rfl) ?_ | refine L.call1 1 (byteR_S b s (nx (nx c).2).2 h16 hs.n1.n1) (by exact rfl) (by exact rfl) (by exact rfl) (fun _ _ => trivial) (by simp only [hset]; rfl) ?_ | refine L.call1 1 (placeR_S r (nx (nx c).2).1 hr hm b s (nx (nx c).2).2 h16 hs.n1.n1) (by exact rfl) (by exact rfl) (by exact rfl) (fun _ _ => trivial) (by simp only [hset]; rfl) ?_)
  (refine D.ret (vs := [_]) (RV.cellA 1 rfl rfl rfl rfl rfl RV.nil) ?_; intro w' hw; exact Post.mk (is := [2]) hw (by decide) rfl ⟨rfl, rfl⟩)
theorem wideR_store (r : Int) (hr : Byte r) (b : Nat) (s : ByteArray) (c : Cur) (h16 : s.size ≤ 1000000) (hs : Suf s c) (h : (nx c).1 = 137) (h2 : (nx (nx c).2).1 < 192) : Ctr Try.prog 46 [.pointer (some ⟨b, 0, none⟩), .int .i64 r] [(b, cR s c)] tt
    (is (Ins.V ⟨4, 0, (midD r (nx (nx c).2).1), 0, (sibD r (nx (nx c).2).1 (nx (nx c).2).2).1.1, (sibD r (nx (nx c).2).1 (nx (nx c).2).2).1.2.1, (sibD r (nx (nx c).2).1 (nx (nx c).2).2).1.2.2, (dispD (nx (nx c).2).1 (sibD r (nx (nx c).2).1 (nx (nx c).2).2).2).1, 0⟩) [(b, cR s ((dispD (nx (nx c).2).1 (sibD r (nx (nx c).2).1 (nx (nx c).2).2).2).2))]) := by
  have hb := hs.byte
  have hm := hs.n1.byte
  have hm3 := hs.n1.n1.byte
  have l1 := lastE hr hb
  have l2 := lastE hr hm
  have l3 := lastE hr hm3
  have m2 := midE hr hm
  have m3 := midE hr hm3
  have f0 : cm .geq (nx c).1 184 = false := cmR_ge' (by omega)
  have f1 : cm .eql (nx c).1 15 = false := cm_no (by omega)
  have f2 : cm .eql (nx c).1 139 = false := cm_no (by omega)
  have f3 : cm .eql (nx c).1 137 = true := cm_yes (by omega)
  have f4 : cm .lss (nx (nx c).2).1 192 = true := cmR_lo (by omega)
  refine Ctr.enter Try.func46 Try.ntmps46 rfl rfl (fun w _ => ?_)
  repeat (first | refine Af ?_ | refine Ac ?_ | refine Aa ?_ | refine Ae ?_ | refine Ad ?_ | refine Ag ?_ | refine Ah ?_ | refine Ao ?_ | refine Al 0 ?_ | refine Ab 0 ?_ | refine Ab 1 ?_ | refine As ?_ | refine Aq (fun _ => ?_) | refine Am ?_ | refine Aj ?_ | refine Be ?_ | refine Ax ?_ | refine Aw ?_ | refine Bf ?_ | refine Ai ?_ | refine An ?_ | refine Av ?_ | refine Bb ?_ | refine Ap ?_ | refine L.call1 1 (byteR_S b s c h16 hs) (by exact rfl) (by exact rfl) (by exact rfl) (fun _ _ => trivial) (by simp only [hset]; rfl) ?_ | refine L.call1 1 (byteR_S b s (nx c).2 h16 hs.n1) (by exact rfl) (by exact rfl) (by exact rfl) (fun _ _ => trivial) (by simp only [hset]; rfl) ?_ | refine L.call1 1 (byteR_S b s (nx (nx c).2).2 h16 hs.n1.n1) (by exact rfl) (by exact rfl) (by exact rfl) (fun _ _ => trivial) (by simp only [hset]; rfl) ?_ | refine L.call1 1 (placeR_S r (nx (nx c).2).1 hr hm b s (nx (nx c).2).2 h16 hs.n1.n1) (by exact rfl) (by exact rfl) (by exact rfl) (fun _ _ => trivial) (by simp only [hset]; rfl) ?_)
  (refine D.ret (vs := [_]) (RV.cellA 1 rfl rfl rfl rfl rfl RV.nil) ?_; intro w' hw; exact Post.mk (is := [2]) hw (by decide) rfl ⟨rfl, rfl⟩)
theorem wideR_lea (r : Int) (hr : Byte r) (b : Nat) (s : ByteArray) (c : Cur) (h16 : s.size ≤ 1000000) (hs : Suf s c) (h : (nx c).1 = 141) : Ctr Try.prog 46 [.pointer (some ⟨b, 0, none⟩), .int .i64 r] [(b, cR s c)] tt
    (is (Ins.V ⟨5, (midD r (nx (nx c).2).1), 0, 0, (sibD r (nx (nx c).2).1 (nx (nx c).2).2).1.1, (sibD r (nx (nx c).2).1 (nx (nx c).2).2).1.2.1, (sibD r (nx (nx c).2).1 (nx (nx c).2).2).1.2.2, (dispD (nx (nx c).2).1 (sibD r (nx (nx c).2).1 (nx (nx c).2).2).2).1, 0⟩) [(b, cR s ((dispD (nx (nx c).2).1 (sibD r (nx (nx c).2).1 (nx (nx c).2).2).2).2))]) := by
  have hb := hs.byte
  have hm := hs.n1.byte
  have hm3 := hs.n1.n1.byte
  have l1 := lastE hr hb
  have l2 := lastE hr hm
  have l3 := lastE hr hm3
  have m2 := midE hr hm
  have m3 := midE hr hm3
  have f0 : cm .geq (nx c).1 184 = false := cmR_ge' (by omega)
  have f1 : cm .eql (nx c).1 15 = false := cm_no (by omega)
  have f2 : cm .eql (nx c).1 139 = false := cm_no (by omega)
  have f3 : cm .eql (nx c).1 137 = false := cm_no (by omega)
  have f4 : cm .eql (nx c).1 141 = true := cm_yes (by omega)
  refine Ctr.enter Try.func46 Try.ntmps46 rfl rfl (fun w _ => ?_)
  repeat (first | refine Af ?_ | refine Ac ?_ | refine Aa ?_ | refine Ae ?_ | refine Ad ?_ | refine Ag ?_ | refine Ah ?_ | refine Ao ?_ | refine Al 0 ?_ | refine Ab 0 ?_ | refine Ab 1 ?_ | refine As ?_ | refine Aq (fun _ => ?_) | refine Am ?_ | refine Aj ?_ | refine Ax ?_ | refine Aw ?_ | refine Bf ?_ | refine Ai ?_ | refine Ar ?_ | refine An ?_ | refine Av ?_ | refine Bb ?_ | refine Ap ?_ | refine L.call1 1 (byteR_S b s c h16 hs) (by exact rfl) (by exact rfl) (by exact rfl) (fun _ _ => trivial) (by simp only [hset]; rfl) ?_ | refine L.call1 1 (byteR_S b s (nx c).2 h16 hs.n1) (by exact rfl) (by exact rfl) (by exact rfl) (fun _ _ => trivial) (by simp only [hset]; rfl) ?_ | refine L.call1 1 (byteR_S b s (nx (nx c).2).2 h16 hs.n1.n1) (by exact rfl) (by exact rfl) (by exact rfl) (fun _ _ => trivial) (by simp only [hset]; rfl) ?_ | refine L.call1 1 (placeR_S r (nx (nx c).2).1 hr hm b s (nx (nx c).2).2 h16 hs.n1.n1) (by exact rfl) (by exact rfl) (by exact rfl) (fun _ _ => trivial) (by simp only [hset]; rfl) ?_)
  (refine D.ret (vs := [_]) (RV.cellA 1 rfl rfl rfl rfl rfl RV.nil) ?_; intro w' hw; exact Post.mk (is := [2]) hw (by decide) rfl ⟨rfl, rfl⟩)
theorem wideR_grp15 (r : Int) (hr : Byte r) (b : Nat) (s : ByteArray) (c : Cur) (h16 : s.size ≤ 1000000) (hs : Suf s c) (h : (nx c).1 = 129) (hq : (midD r (nx (nx c).2).1) = 0) : Ctr Try.prog 46 [.pointer (some ⟨b, 0, none⟩), .int .i64 r] [(b, cR s c)] tt
    (is (Ins.V ⟨15, lastD r (nx (nx c).2).1, 0, 0, 0, 0, 0, 0, (numD 4 (nx (nx c).2).2).1⟩) [(b, cR s ((numD 4 (nx (nx c).2).2).2))]) := by
  have hb := hs.byte
  have hm := hs.n1.byte
  have hm3 := hs.n1.n1.byte
  have l1 := lastE hr hb
  have l2 := lastE hr hm
  have l3 := lastE hr hm3
  have m2 := midE hr hm
  have m3 := midE hr hm3
  have f0 : cm .geq (nx c).1 184 = false := cmR_ge' (by omega)
  have f1 : cm .eql (nx c).1 15 = false := cm_no (by omega)
  have f2 : cm .eql (nx c).1 139 = false := cm_no (by omega)
  have f3 : cm .eql (nx c).1 137 = false := cm_no (by omega)
  have f4 : cm .eql (nx c).1 141 = false := cm_no (by omega)
  have f5 : cm .eql (nx c).1 129 = true := cm_yes (by omega)
  have f6 : cm .eql (midD r (nx (nx c).2).1) 0 = true := cm_yes (by omega)
  refine Ctr.enter Try.func46 Try.ntmps46 rfl rfl (fun w _ => ?_)
  repeat (first | refine Af ?_ | refine Ac ?_ | refine Aa ?_ | refine Ae ?_ | refine Ad ?_ | refine Ag ?_ | refine Ah ?_ | refine Ao ?_ | refine Ab 0 ?_ | refine As ?_ | refine Aq (fun _ => ?_) | refine Am ?_ | refine Aj ?_ | refine Ax ?_ | refine Aw ?_ | refine Bf ?_ | refine Ai ?_ | refine Ar ?_ | refine An ?_ | refine Av ?_ | refine Bb ?_ | refine Ap ?_ | refine L.call1 1 (byteR_S b s c h16 hs) (by exact rfl) (by exact rfl) (by exact rfl) (fun _ _ => trivial) (by simp only [hset]; rfl) ?_ | refine L.call1 1 (byteR_S b s (nx c).2 h16 hs.n1) (by exact rfl) (by exact rfl) (by exact rfl) (fun _ _ => trivial) (by simp only [hset]; rfl) ?_ | refine L.call1 1 (byteR_S b s (nx (nx c).2).2 h16 hs.n1.n1) (by exact rfl) (by exact rfl) (by exact rfl) (fun _ _ => trivial) (by simp only [hset]; rfl) ?_ | refine L.call1 1 (numberR_S 4 (by decide) b s (nx (nx c).2).2 h16 hs.n1.n1) (by exact rfl) (by exact rfl) (by exact rfl) (fun _ _ => trivial) (by simp only [hset]; rfl) ?_)
  (refine D.ret (vs := [_]) (RV.cellA 0 rfl rfl rfl rfl rfl RV.nil) ?_; intro w' hw; exact Post.mk (is := [1]) hw (by decide) rfl ⟨rfl, rfl⟩)
theorem wideR_grp16 (r : Int) (hr : Byte r) (b : Nat) (s : ByteArray) (c : Cur) (h16 : s.size ≤ 1000000) (hs : Suf s c) (h : (nx c).1 = 129) (hq : (midD r (nx (nx c).2).1) = 4) : Ctr Try.prog 46 [.pointer (some ⟨b, 0, none⟩), .int .i64 r] [(b, cR s c)] tt
    (is (Ins.V ⟨16, lastD r (nx (nx c).2).1, 0, 0, 0, 0, 0, 0, (numD 4 (nx (nx c).2).2).1⟩) [(b, cR s ((numD 4 (nx (nx c).2).2).2))]) := by
  have hb := hs.byte
  have hm := hs.n1.byte
  have hm3 := hs.n1.n1.byte
  have l1 := lastE hr hb
  have l2 := lastE hr hm
  have l3 := lastE hr hm3
  have m2 := midE hr hm
  have m3 := midE hr hm3
  have f0 : cm .geq (nx c).1 184 = false := cmR_ge' (by omega)
  have f1 : cm .eql (nx c).1 15 = false := cm_no (by omega)
  have f2 : cm .eql (nx c).1 139 = false := cm_no (by omega)
  have f3 : cm .eql (nx c).1 137 = false := cm_no (by omega)
  have f4 : cm .eql (nx c).1 141 = false := cm_no (by omega)
  have f5 : cm .eql (nx c).1 129 = true := cm_yes (by omega)
  have f6 : cm .eql (midD r (nx (nx c).2).1) 0 = false := cm_no (by omega)
  have f7 : cm .eql (midD r (nx (nx c).2).1) 4 = true := cm_yes (by omega)
  refine Ctr.enter Try.func46 Try.ntmps46 rfl rfl (fun w _ => ?_)
  repeat (first | refine Af ?_ | refine Ac ?_ | refine Aa ?_ | refine Ae ?_ | refine Ad ?_ | refine Ag ?_ | refine Ah ?_ | refine Ao ?_ | refine Ab 0 ?_ | refine As ?_ | refine Aq (fun _ => ?_) | refine Am ?_ | refine Aj ?_ | refine Ax ?_ | refine Aw ?_ | refine Bf ?_ | refine Ai ?_ | refine Ar ?_ | refine An ?_ | refine Av ?_ | refine Bb ?_ | refine Ap ?_ | refine L.call1 1 (byteR_S b s c h16 hs) (by exact rfl) (by exact rfl) (by exact rfl) (fun _ _ => trivial) (by simp only [hset]; rfl) ?_ | refine L.call1 1 (byteR_S b s (nx c).2 h16 hs.n1) (by exact rfl) (by exact rfl) (by exact rfl) (fun _ _ => trivial) (by simp only [hset]; rfl) ?_ | refine L.call1 1 (byteR_S b s (nx (nx c).2).2 h16 hs.n1.n1) (by exact rfl) (by exact rfl) (by exact rfl) (fun _ _ => trivial) (by simp only [hset]; rfl) ?_ | refine L.call1 1 (numberR_S 4 (by decide) b s (nx (nx c).2).2 h16 hs.n1.n1) (by exact rfl) (by exact rfl) (by exact rfl) (fun _ _ => trivial) (by simp only [hset]; rfl) ?_)
  (refine D.ret (vs := [_]) (RV.cellA 0 rfl rfl rfl rfl rfl RV.nil) ?_; intro w' hw; exact Post.mk (is := [1]) hw (by decide) rfl ⟨rfl, rfl⟩)
theorem wideR_grp17 (r : Int) (hr : Byte r) (b : Nat) (s : ByteArray) (c : Cur) (h16 : s.size ≤ 1000000) (hs : Suf s c) (h : (nx c).1 = 129) (hq : (midD r (nx (nx c).2).1) = 5) : Ctr Try.prog 46 [.pointer (some ⟨b, 0, none⟩), .int .i64 r] [(b, cR s c)] tt
    (is (Ins.V ⟨17, lastD r (nx (nx c).2).1, 0, 0, 0, 0, 0, 0, (numD 4 (nx (nx c).2).2).1⟩) [(b, cR s ((numD 4 (nx (nx c).2).2).2))]) := by
  have hb := hs.byte
  have hm := hs.n1.byte
  have hm3 := hs.n1.n1.byte
  have l1 := lastE hr hb
  have l2 := lastE hr hm
  have l3 := lastE hr hm3
  have m2 := midE hr hm
  have m3 := midE hr hm3
  have f0 : cm .geq (nx c).1 184 = false := cmR_ge' (by omega)
  have f1 : cm .eql (nx c).1 15 = false := cm_no (by omega)
  have f2 : cm .eql (nx c).1 139 = false := cm_no (by omega)
  have f3 : cm .eql (nx c).1 137 = false := cm_no (by omega)
  have f4 : cm .eql (nx c).1 141 = false := cm_no (by omega)
  have f5 : cm .eql (nx c).1 129 = true := cm_yes (by omega)
  have f6 : cm .eql (midD r (nx (nx c).2).1) 0 = false := cm_no (by omega)
  have f7 : cm .eql (midD r (nx (nx c).2).1) 4 = false := cm_no (by omega)
  have f8 : cm .eql (midD r (nx (nx c).2).1) 5 = true := cm_yes (by omega)
  refine Ctr.enter Try.func46 Try.ntmps46 rfl rfl (fun w _ => ?_)
  repeat (first | refine Af ?_ | refine Ac ?_ | refine Aa ?_ | refine Ae ?_ | refine Ad ?_ | refine Ag ?_ | refine Ah ?_ | refine Ao ?_ | refine Ab 0 ?_ | refine As ?_ | refine Aq (fun _ => ?_) | refine Am ?_ | refine Aj ?_ | refine Ax ?_ | refine Aw ?_ | refine Bf ?_ | refine Ai ?_ | refine Ar ?_ | refine An ?_ | refine Av ?_ | refine Bb ?_ | refine Ap ?_ | refine L.call1 1 (byteR_S b s c h16 hs) (by exact rfl) (by exact rfl) (by exact rfl) (fun _ _ => trivial) (by simp only [hset]; rfl) ?_ | refine L.call1 1 (byteR_S b s (nx c).2 h16 hs.n1) (by exact rfl) (by exact rfl) (by exact rfl) (fun _ _ => trivial) (by simp only [hset]; rfl) ?_ | refine L.call1 1 (byteR_S b s (nx (nx c).2).2 h16 hs.n1.n1) (by exact rfl) (by exact rfl) (by exact rfl) (fun _ _ => trivial) (by simp only [hset]; rfl) ?_ | refine L.call1 1 (numberR_S 4 (by decide) b s (nx (nx c).2).2 h16 hs.n1.n1) (by exact rfl) (by exact rfl) (by exact rfl) (fun _ _ => trivial) (by simp only [hset]; rfl) ?_)
  (refine D.ret (vs := [_]) (RV.cellA 0 rfl rfl rfl rfl rfl RV.nil) ?_; intro w' hw; exact Post.mk (is := [1]) hw (by decide) rfl ⟨rfl, rfl⟩)
theorem wideR_grp18 (r : Int) (hr : Byte r) (b : Nat) (s : ByteArray) (c : Cur) (h16 : s.size ≤ 1000000) (hs : Suf s c) (h : (nx c).1 = 129) (hq : (midD r (nx (nx c).2).1) = 7) : Ctr Try.prog 46 [.pointer (some ⟨b, 0, none⟩), .int .i64 r] [(b, cR s c)] tt
    (is (Ins.V ⟨18, lastD r (nx (nx c).2).1, 0, 0, 0, 0, 0, 0, (numD 4 (nx (nx c).2).2).1⟩) [(b, cR s ((numD 4 (nx (nx c).2).2).2))]) := by
  have hb := hs.byte
  have hm := hs.n1.byte
  have hm3 := hs.n1.n1.byte
  have l1 := lastE hr hb
  have l2 := lastE hr hm
  have l3 := lastE hr hm3
  have m2 := midE hr hm
  have m3 := midE hr hm3
  have f0 : cm .geq (nx c).1 184 = false := cmR_ge' (by omega)
  have f1 : cm .eql (nx c).1 15 = false := cm_no (by omega)
  have f2 : cm .eql (nx c).1 139 = false := cm_no (by omega)
  have f3 : cm .eql (nx c).1 137 = false := cm_no (by omega)
  have f4 : cm .eql (nx c).1 141 = false := cm_no (by omega)
  have f5 : cm .eql (nx c).1 129 = true := cm_yes (by omega)
  have f6 : cm .eql (midD r (nx (nx c).2).1) 0 = false := cm_no (by omega)
  have f7 : cm .eql (midD r (nx (nx c).2).1) 4 = false := cm_no (by omega)
  have f8 : cm .eql (midD r (nx (nx c).2).1) 5 = false := cm_no (by omega)
  have f9 : cm .eql (midD r (nx (nx c).2).1) 7 = true := cm_yes (by omega)
  refine Ctr.enter Try.func46 Try.ntmps46 rfl rfl (fun w _ => ?_)
  repeat (first | refine Af ?_ | refine Ac ?_ | refine Aa ?_ | refine Ae ?_ | refine Ad ?_ | refine Ag ?_ | refine Ah ?_ | refine Ao ?_ | refine Ab 0 ?_ | refine As ?_ | refine Aq (fun _ => ?_) | refine Am ?_ | refine Aj ?_ | refine Ax ?_ | refine Aw ?_ | refine Bf ?_ | refine Ai ?_ | refine Ar ?_ | refine An ?_ | refine Av ?_ | refine Bb ?_ | refine Ap ?_ | refine L.call1 1 (byteR_S b s c h16 hs) (by exact rfl) (by exact rfl) (by exact rfl) (fun _ _ => trivial) (by simp only [hset]; rfl) ?_ | refine L.call1 1 (byteR_S b s (nx c).2 h16 hs.n1) (by exact rfl) (by exact rfl) (by exact rfl) (fun _ _ => trivial) (by simp only [hset]; rfl) ?_ | refine L.call1 1 (byteR_S b s (nx (nx c).2).2 h16 hs.n1.n1) (by exact rfl) (by exact rfl) (by exact rfl) (fun _ _ => trivial) (by simp only [hset]; rfl) ?_ | refine L.call1 1 (numberR_S 4 (by decide) b s (nx (nx c).2).2 h16 hs.n1.n1) (by exact rfl) (by exact rfl) (by exact rfl) (fun _ _ => trivial) (by simp only [hset]; rfl) ?_)
  (refine D.ret (vs := [_]) (RV.cellA 0 rfl rfl rfl rfl rfl RV.nil) ?_; intro w' hw; exact Post.mk (is := [1]) hw (by decide) rfl ⟨rfl, rfl⟩)
theorem wideR_grp0 (r : Int) (hr : Byte r) (b : Nat) (s : ByteArray) (c : Cur) (h16 : s.size ≤ 1000000) (hs : Suf s c) (h : (nx c).1 = 129) (hq : (midD r (nx (nx c).2).1) ≠ 0 ∧ (midD r (nx (nx c).2).1) ≠ 4 ∧ (midD r (nx (nx c).2).1) ≠ 5 ∧ (midD r (nx (nx c).2).1) ≠ 7) : Ctr Try.prog 46 [.pointer (some ⟨b, 0, none⟩), .int .i64 r] [(b, cR s c)] tt
    (is (Ins.V ⟨0, lastD r (nx (nx c).2).1, 0, 0, 0, 0, 0, 0, (numD 4 (nx (nx c).2).2).1⟩) [(b, cR s ((numD 4 (nx (nx c).2).2).2))]) := by
  have hb := hs.byte
  have hm := hs.n1.byte
  have hm3 := hs.n1.n1.byte
  have l1 := lastE hr hb
  have l2 := lastE hr hm
  have l3 := lastE hr hm3
  have m2 := midE hr hm
  have m3 := midE hr hm3
  have f0 : cm .geq (nx c).1 184 = false := cmR_ge' (by omega)
  have f1 : cm .eql (nx c).1 15 = false := cm_no (by omega)
  have f2 : cm .eql (nx c).1 139 = false := cm_no (by omega)
  have f3 : cm .eql (nx c).1 137 = false := cm_no (by omega)
  have f4 : cm .eql (nx c).1 141 = false := cm_no (by omega)
  have f5 : cm .eql (nx c).1 129 = true := cm_yes (by omega)
  have f6 : cm .eql (midD r (nx (nx c).2).1) 0 = false := cm_no (by omega)
  have f7 : cm .eql (midD r (nx (nx c).2).1) 4 = false := cm_no (by omega)
  have f8 : cm .eql (midD r (nx (nx c).2).1) 5 = false := cm_no (by omega)
  have f9 : cm .eql (midD r (nx (nx c).2).1) 7 = false := cm_no (by omega)
  refine Ctr.enter Try.func46 Try.ntmps46 rfl rfl (fun w _ => ?_)
  repeat (first | refine Af ?_ | refine Ac ?_ | refine Aa ?_ | refine Ae ?_ | refine Ad ?_ | refine Ag ?_ | refine Ah ?_ | refine Ao ?_ | refine Ab 0 ?_ | refine As ?_ | refine Aq (fun _ => ?_) | refine Am ?_ | refine Aj ?_ | refine Ax ?_ | refine Aw ?_ | refine Bf ?_ | refine Ai ?_ | refine Ar ?_ | refine An ?_ | refine Av ?_ | refine Bb ?_ | refine Ap ?_ | refine L.call1 1 (byteR_S b s c h16 hs) (by exact rfl) (by exact rfl) (by exact rfl) (fun _ _ => trivial) (by simp only [hset]; rfl) ?_ | refine L.call1 1 (byteR_S b s (nx c).2 h16 hs.n1) (by exact rfl) (by exact rfl) (by exact rfl) (fun _ _ => trivial) (by simp only [hset]; rfl) ?_ | refine L.call1 1 (byteR_S b s (nx (nx c).2).2 h16 hs.n1.n1) (by exact rfl) (by exact rfl) (by exact rfl) (fun _ _ => trivial) (by simp only [hset]; rfl) ?_ | refine L.call1 1 (numberR_S 4 (by decide) b s (nx (nx c).2).2 h16 hs.n1.n1) (by exact rfl) (by exact rfl) (by exact rfl) (fun _ _ => trivial) (by simp only [hset]; rfl) ?_)
  (refine D.ret (vs := [_]) (RV.cellA 0 rfl rfl rfl rfl rfl RV.nil) ?_; intro w' hw; exact Post.mk (is := [1]) hw (by decide) rfl ⟨rfl, rfl⟩)
theorem wideR_neg (r : Int) (hr : Byte r) (b : Nat) (s : ByteArray) (c : Cur) (h16 : s.size ≤ 1000000) (hs : Suf s c) (h : (nx c).1 = 247) (hq : (midD r (nx (nx c).2).1) = 3) : Ctr Try.prog 46 [.pointer (some ⟨b, 0, none⟩), .int .i64 r] [(b, cR s c)] tt
    (is (Ins.V ⟨22, lastD r (nx (nx c).2).1, 0, 0, 0, 0, 0, 0, 0⟩) [(b, cR s ((nx (nx c).2).2))]) := by
  have hb := hs.byte
  have hm := hs.n1.byte
  have hm3 := hs.n1.n1.byte
  have l1 := lastE hr hb
  have l2 := lastE hr hm
  have l3 := lastE hr hm3
  have m2 := midE hr hm
  have m3 := midE hr hm3
  have f0 : cm .geq (nx c).1 184 = true := cmR_ge (by omega)
  have f1 : cm .lss (nx c).1 192 = false := cmR_lo' (by omega)
  have f2 : cm .eql (nx c).1 15 = false := cm_no (by omega)
  have f3 : cm .eql (nx c).1 139 = false := cm_no (by omega)
  have f4 : cm .eql (nx c).1 137 = false := cm_no (by omega)
  have f5 : cm .eql (nx c).1 141 = false := cm_no (by omega)
  have f6 : cm .eql (nx c).1 129 = false := cm_no (by omega)
  have f7 : cm .eql (nx c).1 247 = true := cm_yes (by omega)
  have f8 : cm .eql (midD r (nx (nx c).2).1) 3 = true := cm_yes (by omega)
  refine Ctr.enter Try.func46 Try.ntmps46 rfl rfl (fun w _ => ?_)
  repeat (first | refine Af ?_ | refine Ac ?_ | refine Aa ?_ | refine Ae ?_ | refine Ad ?_ | refine Ag ?_ | refine Ah ?_ | refine Ao ?_ | refine Ab 0 ?_ | refine As ?_ | refine Aq (fun _ => ?_) | refine Am ?_ | refine Aj ?_ | refine Be ?_ | refine Ax ?_ | refine Aw ?_ | refine Bf ?_ | refine Ai ?_ | refine An ?_ | refine Av ?_ | refine Bb ?_ | refine Ap ?_ | refine L.call1 1 (byteR_S b s c h16 hs) (by exact rfl) (by exact rfl) (by exact rfl) (fun _ _ => trivial) (by simp only [hset]; rfl) ?_ | refine L.call1 1 (byteR_S b s (nx c).2 h16 hs.n1) (by exact rfl) (by exact rfl) (by exact rfl) (fun _ _ => trivial) (by simp only [hset]; rfl) ?_ | refine L.call1 1 (byteR_S b s (nx (nx c).2).2 h16 hs.n1.n1) (by exact rfl) (by exact rfl) (by exact rfl) (fun _ _ => trivial) (by simp only [hset]; rfl) ?_)
  (refine D.ret (vs := [_]) (RV.cellA 0 rfl rfl rfl rfl rfl RV.nil) ?_; intro w' hw; exact Post.mk (is := [1]) hw (by decide) rfl ⟨rfl, rfl⟩)
theorem wideR_not (r : Int) (hr : Byte r) (b : Nat) (s : ByteArray) (c : Cur) (h16 : s.size ≤ 1000000) (hs : Suf s c) (h : (nx c).1 = 247) (hq : (midD r (nx (nx c).2).1) = 2) : Ctr Try.prog 46 [.pointer (some ⟨b, 0, none⟩), .int .i64 r] [(b, cR s c)] tt
    (is (Ins.V ⟨23, lastD r (nx (nx c).2).1, 0, 0, 0, 0, 0, 0, 0⟩) [(b, cR s ((nx (nx c).2).2))]) := by
  have hb := hs.byte
  have hm := hs.n1.byte
  have hm3 := hs.n1.n1.byte
  have l1 := lastE hr hb
  have l2 := lastE hr hm
  have l3 := lastE hr hm3
  have m2 := midE hr hm
  have m3 := midE hr hm3
  have f0 : cm .geq (nx c).1 184 = true := cmR_ge (by omega)
  have f1 : cm .lss (nx c).1 192 = false := cmR_lo' (by omega)
  have f2 : cm .eql (nx c).1 15 = false := cm_no (by omega)
  have f3 : cm .eql (nx c).1 139 = false := cm_no (by omega)
  have f4 : cm .eql (nx c).1 137 = false := cm_no (by omega)
  have f5 : cm .eql (nx c).1 141 = false := cm_no (by omega)
  have f6 : cm .eql (nx c).1 129 = false := cm_no (by omega)
  have f7 : cm .eql (nx c).1 247 = true := cm_yes (by omega)
  have f8 : cm .eql (midD r (nx (nx c).2).1) 3 = false := cm_no (by omega)
  have f9 : cm .eql (midD r (nx (nx c).2).1) 2 = true := cm_yes (by omega)
  refine Ctr.enter Try.func46 Try.ntmps46 rfl rfl (fun w _ => ?_)
  repeat (first | refine Af ?_ | refine Ac ?_ | refine Aa ?_ | refine Ae ?_ | refine Ad ?_ | refine Ag ?_ | refine Ah ?_ | refine Ao ?_ | refine Ab 0 ?_ | refine As ?_ | refine Aq (fun _ => ?_) | refine Am ?_ | refine Aj ?_ | refine Be ?_ | refine Ax ?_ | refine Aw ?_ | refine Bf ?_ | refine Ai ?_ | refine An ?_ | refine Av ?_ | refine Bb ?_ | refine Ap ?_ | refine L.call1 1 (byteR_S b s c h16 hs) (by exact rfl) (by exact rfl) (by exact rfl) (fun _ _ => trivial) (by simp only [hset]; rfl) ?_ | refine L.call1 1 (byteR_S b s (nx c).2 h16 hs.n1) (by exact rfl) (by exact rfl) (by exact rfl) (fun _ _ => trivial) (by simp only [hset]; rfl) ?_ | refine L.call1 1 (byteR_S b s (nx (nx c).2).2 h16 hs.n1.n1) (by exact rfl) (by exact rfl) (by exact rfl) (fun _ _ => trivial) (by simp only [hset]; rfl) ?_)
  (refine D.ret (vs := [_]) (RV.cellA 0 rfl rfl rfl rfl rfl RV.nil) ?_; intro w' hw; exact Post.mk (is := [1]) hw (by decide) rfl ⟨rfl, rfl⟩)
theorem wideR_shl (r : Int) (hr : Byte r) (b : Nat) (s : ByteArray) (c : Cur) (h16 : s.size ≤ 1000000) (hs : Suf s c) (h : (nx c).1 = 193) (hq : (midD r (nx (nx c).2).1) = 4) : Ctr Try.prog 46 [.pointer (some ⟨b, 0, none⟩), .int .i64 r] [(b, cR s c)] tt
    (is (Ins.V ⟨24, lastD r (nx (nx c).2).1, 0, 0, 0, 0, 0, 0, (numD 1 (nx (nx c).2).2).1⟩) [(b, cR s ((numD 1 (nx (nx c).2).2).2))]) := by
  have hb := hs.byte
  have hm := hs.n1.byte
  have hm3 := hs.n1.n1.byte
  have l1 := lastE hr hb
  have l2 := lastE hr hm
  have l3 := lastE hr hm3
  have m2 := midE hr hm
  have m3 := midE hr hm3
  have f0 : cm .geq (nx c).1 184 = true := cmR_ge (by omega)
  have f1 : cm .lss (nx c).1 192 = false := cmR_lo' (by omega)
  have f2 : cm .eql (nx c).1 15 = false := cm_no (by omega)
  have f3 : cm .eql (nx c).1 139 = false := cm_no (by omega)
  have f4 : cm .eql (nx c).1 137 = false := cm_no (by omega)
  have f5 : cm .eql (nx c).1 141 = false := cm_no (by omega)
  have f6 : cm .eql (nx c).1 129 = false := cm_no (by omega)
  have f7 : cm .eql (nx c).1 247 = false := cm_no (by omega)
  have f8 : cm .eql (nx c).1 193 = true := cm_yes (by omega)
  have f9 : cm .eql (midD r (nx (nx c).2).1) 4 = true := cm_yes (by omega)
  refine Ctr.enter Try.func46 Try.ntmps46 rfl rfl (fun w _ => ?_)
  repeat (first | refine Af ?_ | refine Ac ?_ | refine Aa ?_ | refine Ae ?_ | refine Ad ?_ | refine Ag ?_ | refine Ah ?_ | refine Ao ?_ | refine Ab 0 ?_ | refine As ?_ | refine Aq (fun _ => ?_) | refine Am ?_ | refine Aj ?_ | refine Be ?_ | refine Ax ?_ | refine Aw ?_ | refine Bf ?_ | refine Ai ?_ | refine An ?_ | refine Av ?_ | refine Bb ?_ | refine Ap ?_ | refine L.call1 1 (byteR_S b s c h16 hs) (by exact rfl) (by exact rfl) (by exact rfl) (fun _ _ => trivial) (by simp only [hset]; rfl) ?_ | refine L.call1 1 (byteR_S b s (nx c).2 h16 hs.n1) (by exact rfl) (by exact rfl) (by exact rfl) (fun _ _ => trivial) (by simp only [hset]; rfl) ?_ | refine L.call1 1 (byteR_S b s (nx (nx c).2).2 h16 hs.n1.n1) (by exact rfl) (by exact rfl) (by exact rfl) (fun _ _ => trivial) (by simp only [hset]; rfl) ?_ | refine L.call1 1 (numberR_S 1 (by decide) b s (nx (nx c).2).2 h16 hs.n1.n1) (by exact rfl) (by exact rfl) (by exact rfl) (fun _ _ => trivial) (by simp only [hset]; rfl) ?_)
  (refine D.ret (vs := [_]) (RV.cellA 0 rfl rfl rfl rfl rfl RV.nil) ?_; intro w' hw; exact Post.mk (is := [1]) hw (by decide) rfl ⟨rfl, rfl⟩)
theorem wideR_shr (r : Int) (hr : Byte r) (b : Nat) (s : ByteArray) (c : Cur) (h16 : s.size ≤ 1000000) (hs : Suf s c) (h : (nx c).1 = 193) (hq : (midD r (nx (nx c).2).1) = 5) : Ctr Try.prog 46 [.pointer (some ⟨b, 0, none⟩), .int .i64 r] [(b, cR s c)] tt
    (is (Ins.V ⟨25, lastD r (nx (nx c).2).1, 0, 0, 0, 0, 0, 0, (numD 1 (nx (nx c).2).2).1⟩) [(b, cR s ((numD 1 (nx (nx c).2).2).2))]) := by
  have hb := hs.byte
  have hm := hs.n1.byte
  have hm3 := hs.n1.n1.byte
  have l1 := lastE hr hb
  have l2 := lastE hr hm
  have l3 := lastE hr hm3
  have m2 := midE hr hm
  have m3 := midE hr hm3
  have f0 : cm .geq (nx c).1 184 = true := cmR_ge (by omega)
  have f1 : cm .lss (nx c).1 192 = false := cmR_lo' (by omega)
  have f2 : cm .eql (nx c).1 15 = false := cm_no (by omega)
  have f3 : cm .eql (nx c).1 139 = false := cm_no (by omega)
  have f4 : cm .eql (nx c).1 137 = false := cm_no (by omega)
  have f5 : cm .eql (nx c).1 141 = false := cm_no (by omega)
  have f6 : cm .eql (nx c).1 129 = false := cm_no (by omega)
  have f7 : cm .eql (nx c).1 247 = false := cm_no (by omega)
  have f8 : cm .eql (nx c).1 193 = true := cm_yes (by omega)
  have f9 : cm .eql (midD r (nx (nx c).2).1) 4 = false := cm_no (by omega)
  have f10 : cm .eql (midD r (nx (nx c).2).1) 5 = true := cm_yes (by omega)
  refine Ctr.enter Try.func46 Try.ntmps46 rfl rfl (fun w _ => ?_)
  repeat (first | refine Af ?_ | refine Ac ?_ | refine Aa ?_ | refine Ae ?_ | refine Ad ?_ | refine Ag ?_ | refine Ah ?_ | refine Ao ?_ | refine Ab 0 ?_ | refine As ?_ | refine Aq (fun _ => ?_) | refine Am ?_ | refine Aj ?_ | refine Be ?_ | refine Ax ?_ | refine Aw ?_ | refine Bf ?_ | refine Ai ?_ | refine An ?_ | refine Av ?_ | refine Bb ?_ | refine Ap ?_ | refine L.call1 1 (byteR_S b s c h16 hs) (by exact rfl) (by exact rfl) (by exact rfl) (fun _ _ => trivial) (by simp only [hset]; rfl) ?_ | refine L.call1 1 (byteR_S b s (nx c).2 h16 hs.n1) (by exact rfl) (by exact rfl) (by exact rfl) (fun _ _ => trivial) (by simp only [hset]; rfl) ?_ | refine L.call1 1 (byteR_S b s (nx (nx c).2).2 h16 hs.n1.n1) (by exact rfl) (by exact rfl) (by exact rfl) (fun _ _ => trivial) (by simp only [hset]; rfl) ?_ | refine L.call1 1 (numberR_S 1 (by decide) b s (nx (nx c).2).2 h16 hs.n1.n1) (by exact rfl) (by exact rfl) (by exact rfl) (fun _ _ => trivial) (by simp only [hset]; rfl) ?_)
  (refine D.ret (vs := [_]) (RV.cellA 0 rfl rfl rfl rfl rfl RV.nil) ?_; intro w' hw; exact Post.mk (is := [1]) hw (by decide) rfl ⟨rfl, rfl⟩)
theorem wideR_mov (r : Int) (hr : Byte r) (b : Nat) (s : ByteArray) (c : Cur) (h16 : s.size ≤ 1000000) (hs : Suf s c) (h : (nx c).1 = 137) (h2 : 192 ≤ (nx (nx c).2).1) : Ctr Try.prog 46 [.pointer (some ⟨b, 0, none⟩), .int .i64 r] [(b, cR s c)] tt
    (is (Ins.V ⟨rrM (nx c).1, lastD r (nx (nx c).2).1, (midD r (nx (nx c).2).1), 0, 0, 0, 0, 0, 0⟩) [(b, cR s ((nx (nx c).2).2))]) := by
  have hb := hs.byte
  have hm := hs.n1.byte
  have hm3 := hs.n1.n1.byte
  have l1 := lastE hr hb
  have l2 := lastE hr hm
  have l3 := lastE hr hm3
  have m2 := midE hr hm
  have m3 := midE hr hm3
  have f0 : cm .geq (nx c).1 184 = false := cmR_ge' (by omega)
  have f1 : cm .eql (nx c).1 15 = false := cm_no (by omega)
  have f2 : cm .eql (nx c).1 139 = false := cm_no (by omega)
  have f3 : cm .eql (nx c).1 137 = true := cm_yes (by omega)
  have f4 : cm .lss (nx (nx c).2).1 192 = false := cmR_lo' (by omega)
  have f5 : cm .eql (nx c).1 141 = false := cm_no (by omega)
  have f6 : cm .eql (nx c).1 129 = false := cm_no (by omega)
  have f7 : cm .eql (nx c).1 247 = false := cm_no (by omega)
  have f8 : cm .eql (nx c).1 193 = false := cm_no (by omega)
  refine Ctr.enter Try.func46 Try.ntmps46 rfl rfl (fun w _ => ?_)
  repeat (first | refine Af ?_ | refine Ac ?_ | refine Aa ?_ | refine Ae ?_ | refine Ad ?_ | refine Ag ?_ | refine Ah ?_ | refine Ao ?_ | refine Ab 0 ?_ | refine As ?_ | refine Aq (fun _ => ?_) | refine Aj ?_ | refine Be ?_ | refine Ax ?_ | refine Aw ?_ | refine Bf ?_ | refine Ai ?_ | refine Ar ?_ | refine An ?_ | refine Ap ?_ | refine L.call1 1 (byteR_S b s c h16 hs) (by exact rfl) (by exact rfl) (by exact rfl) (fun _ _ => trivial) (by simp only [hset]; rfl) ?_ | refine L.call1 1 (byteR_S b s (nx c).2 h16 hs.n1) (by exact rfl) (by exact rfl) (by exact rfl) (fun _ _ => trivial) (by simp only [hset]; rfl) ?_ | refine L.call1 1 (byteR_S b s (nx (nx c).2).2 h16 hs.n1.n1) (by exact rfl) (by exact rfl) (by exact rfl) (fun _ _ => trivial) (by simp only [hset]; rfl) ?_ | refine L.callQ (rr_S (nx c).1) (k := ?_))
  (refine D.ret (vs := [_]) (RV.cellA 0 rfl rfl rfl rfl rfl RV.nil) ?_; intro w' hw; exact Post.mk (is := [1]) hw (by decide) rfl ⟨rfl, rfl⟩)
theorem wideR_o247 (r : Int) (hr : Byte r) (b : Nat) (s : ByteArray) (c : Cur) (h16 : s.size ≤ 1000000) (hs : Suf s c) (h : (nx c).1 = 247) (hq : (midD r (nx (nx c).2).1) ≠ 3 ∧ (midD r (nx (nx c).2).1) ≠ 2) : Ctr Try.prog 46 [.pointer (some ⟨b, 0, none⟩), .int .i64 r] [(b, cR s c)] tt
    (is (Ins.V ⟨rrM (nx c).1, lastD r (nx (nx c).2).1, (midD r (nx (nx c).2).1), 0, 0, 0, 0, 0, 0⟩) [(b, cR s ((nx (nx c).2).2))]) := by
  have hb := hs.byte
  have hm := hs.n1.byte
  have hm3 := hs.n1.n1.byte
  have l1 := lastE hr hb
  have l2 := lastE hr hm
  have l3 := lastE hr hm3
  have m2 := midE hr hm
  have m3 := midE hr hm3
  have f0 : cm .geq (nx c).1 184 = true := cmR_ge (by omega)
  have f1 : cm .lss (nx c).1 192 = false := cmR_lo' (by omega)
  have f2 : cm .eql (nx c).1 15 = false := cm_no (by omega)
  have f3 : cm .eql (nx c).1 139 = false := cm_no (by omega)
  have f4 : cm .eql (nx c).1 137 = false := cm_no (by omega)
  have f5 : cm .eql (nx c).1 141 = false := cm_no (by omega)
  have f6 : cm .eql (nx c).1 129 = false := cm_no (by omega)
  have f7 : cm .eql (nx c).1 247 = true := cm_yes (by omega)
  have f8 : cm .eql (midD r (nx (nx c).2).1) 3 = false := cm_no (by omega)
  have f9 : cm .eql (midD r (nx (nx c).2).1) 2 = false := cm_no (by omega)
  have f10 : cm .eql (nx c).1 193 = false := cm_no (by omega)
  refine Ctr.enter Try.func46 Try.ntmps46 rfl rfl (fun w _ => ?_)
  repeat (first | refine Af ?_ | refine Ac ?_ | refine Aa ?_ | refine Ae ?_ | refine Ad ?_ | refine Ag ?_ | refine Ah ?_ | refine Ao ?_ | refine Ab 0 ?_ | refine As ?_ | refine Aq (fun _ => ?_) | refine Aj ?_ | refine Be ?_ | refine Ax ?_ | refine Aw ?_ | refine Bf ?_ | refine Ai ?_ | refine Ar ?_ | refine An ?_ | refine Ap ?_ | refine L.call1 1 (byteR_S b s c h16 hs) (by exact rfl) (by exact rfl) (by exact rfl) (fun _ _ => trivial) (by simp only [hset]; rfl) ?_ | refine L.call1 1 (byteR_S b s (nx c).2 h16 hs.n1) (by exact rfl) (by exact rfl) (by exact rfl) (fun _ _ => trivial) (by simp only [hset]; rfl) ?_ | refine L.call1 1 (byteR_S b s (nx (nx c).2).2 h16 hs.n1.n1) (by exact rfl) (by exact rfl) (by exact rfl) (fun _ _ => trivial) (by simp only [hset]; rfl) ?_ | refine L.callQ (rr_S (nx c).1) (k := ?_))
  (refine D.ret (vs := [_]) (RV.cellA 0 rfl rfl rfl rfl rfl RV.nil) ?_; intro w' hw; exact Post.mk (is := [1]) hw (by decide) rfl ⟨rfl, rfl⟩)
theorem wideR_o193 (r : Int) (hr : Byte r) (b : Nat) (s : ByteArray) (c : Cur) (h16 : s.size ≤ 1000000) (hs : Suf s c) (h : (nx c).1 = 193) (hq : (midD r (nx (nx c).2).1) ≠ 4 ∧ (midD r (nx (nx c).2).1) ≠ 5) : Ctr Try.prog 46 [.pointer (some ⟨b, 0, none⟩), .int .i64 r] [(b, cR s c)] tt
    (is (Ins.V ⟨rrM (nx c).1, lastD r (nx (nx c).2).1, (midD r (nx (nx c).2).1), 0, 0, 0, 0, 0, 0⟩) [(b, cR s ((nx (nx c).2).2))]) := by
  have hb := hs.byte
  have hm := hs.n1.byte
  have hm3 := hs.n1.n1.byte
  have l1 := lastE hr hb
  have l2 := lastE hr hm
  have l3 := lastE hr hm3
  have m2 := midE hr hm
  have m3 := midE hr hm3
  have f0 : cm .geq (nx c).1 184 = true := cmR_ge (by omega)
  have f1 : cm .lss (nx c).1 192 = false := cmR_lo' (by omega)
  have f2 : cm .eql (nx c).1 15 = false := cm_no (by omega)
  have f3 : cm .eql (nx c).1 139 = false := cm_no (by omega)
  have f4 : cm .eql (nx c).1 137 = false := cm_no (by omega)
  have f5 : cm .eql (nx c).1 141 = false := cm_no (by omega)
  have f6 : cm .eql (nx c).1 129 = false := cm_no (by omega)
  have f7 : cm .eql (nx c).1 247 = false := cm_no (by omega)
  have f8 : cm .eql (nx c).1 193 = true := cm_yes (by omega)
  have f9 : cm .eql (midD r (nx (nx c).2).1) 4 = false := cm_no (by omega)
  have f10 : cm .eql (midD r (nx (nx c).2).1) 5 = false := cm_no (by omega)
  refine Ctr.enter Try.func46 Try.ntmps46 rfl rfl (fun w _ => ?_)
  repeat (first | refine Af ?_ | refine Ac ?_ | refine Aa ?_ | refine Ae ?_ | refine Ad ?_ | refine Ag ?_ | refine Ah ?_ | refine Ao ?_ | refine Ab 0 ?_ | refine As ?_ | refine Aq (fun _ => ?_) | refine Aj ?_ | refine Be ?_ | refine Ax ?_ | refine Aw ?_ | refine Bf ?_ | refine Ai ?_ | refine Ar ?_ | refine An ?_ | refine Ap ?_ | refine L.call1 1 (byteR_S b s c h16 hs) (by exact rfl) (by exact rfl) (by exact rfl) (fun _ _ => trivial) (by simp only [hset]; rfl) ?_ | refine L.call1 1 (byteR_S b s (nx c).2 h16 hs.n1) (by exact rfl) (by exact rfl) (by exact rfl) (fun _ _ => trivial) (by simp only [hset]; rfl) ?_ | refine L.call1 1 (byteR_S b s (nx (nx c).2).2 h16 hs.n1.n1) (by exact rfl) (by exact rfl) (by exact rfl) (fun _ _ => trivial) (by simp only [hset]; rfl) ?_ | refine L.callQ (rr_S (nx c).1) (k := ?_))
  (refine D.ret (vs := [_]) (RV.cellA 0 rfl rfl rfl rfl rfl RV.nil) ?_; intro w' hw; exact Post.mk (is := [1]) hw (by decide) rfl ⟨rfl, rfl⟩)
theorem wideR_olo (r : Int) (hr : Byte r) (b : Nat) (s : ByteArray) (c : Cur) (h16 : s.size ≤ 1000000) (hs : Suf s c) (h : (nx c).1 ≠ 15 ∧ (nx c).1 ≠ 139 ∧ (nx c).1 ≠ 137 ∧ (nx c).1 ≠ 141 ∧ (nx c).1 ≠ 129 ∧ (nx c).1 ≠ 247 ∧ (nx c).1 ≠ 193) (h2 : (nx c).1 < 184) : Ctr Try.prog 46 [.pointer (some ⟨b, 0, none⟩), .int .i64 r] [(b, cR s c)] tt
    (is (Ins.V ⟨rrM (nx c).1, lastD r (nx (nx c).2).1, (midD r (nx (nx c).2).1), 0, 0, 0, 0, 0, 0⟩) [(b, cR s ((nx (nx c).2).2))]) := by
  have hb := hs.byte
  have hm := hs.n1.byte
  have hm3 := hs.n1.n1.byte
  have l1 := lastE hr hb
  have l2 := lastE hr hm
  have l3 := lastE hr hm3
  have m2 := midE hr hm
  have m3 := midE hr hm3
  have f0 : cm .geq (nx c).1 184 = false := cmR_ge' (by omega)
  have f1 : cm .eql (nx c).1 15 = false := cm_no (by omega)
  have f2 : cm .eql (nx c).1 139 = false := cm_no (by omega)
  have f3 : cm .eql (nx c).1 137 = false := cm_no (by omega)
  have f4 : cm .eql (nx c).1 141 = false := cm_no (by omega)
  have f5 : cm .eql (nx c).1 129 = false := cm_no (by omega)
  have f6 : cm .eql (nx c).1 247 = false := cm_no (by omega)
  have f7 : cm .eql (nx c).1 193 = false := cm_no (by omega)
  refine Ctr.enter Try.func46 Try.ntmps46 rfl rfl (fun w _ => ?_)
  repeat (first | refine Af ?_ | refine Ac ?_ | refine Aa ?_ | refine Ae ?_ | refine Ad ?_ | refine Ag ?_ | refine Ah ?_ | refine Ao ?_ | refine Ab 0 ?_ | refine As ?_ | refine Aq (fun _ => ?_) | refine Aj ?_ | refine Ax ?_ | refine Aw ?_ | refine Bf ?_ | refine Ai ?_ | refine Ar ?_ | refine An ?_ | refine Ap ?_ | refine L.call1 1 (byteR_S b s c h16 hs) (by exact rfl) (by exact rfl) (by exact rfl) (fun _ _ => trivial) (by simp only [hset]; rfl) ?_ | refine L.call1 1 (byteR_S b s (nx c).2 h16 hs.n1) (by exact rfl) (by exact rfl) (by exact rfl) (fun _ _ => trivial) (by simp only [hset]; rfl) ?_ | refine L.call1 1 (byteR_S b s (nx (nx c).2).2 h16 hs.n1.n1) (by exact rfl) (by exact rfl) (by exact rfl) (fun _ _ => trivial) (by simp only [hset]; rfl) ?_ | refine L.callQ (rr_S (nx c).1) (k := ?_))
  (refine D.ret (vs := [_]) (RV.cellA 0 rfl rfl rfl rfl rfl RV.nil) ?_; intro w' hw; exact Post.mk (is := [1]) hw (by decide) rfl ⟨rfl, rfl⟩)
theorem wideR_ohi (r : Int) (hr : Byte r) (b : Nat) (s : ByteArray) (c : Cur) (h16 : s.size ≤ 1000000) (hs : Suf s c) (h : (nx c).1 ≠ 15 ∧ (nx c).1 ≠ 139 ∧ (nx c).1 ≠ 137 ∧ (nx c).1 ≠ 141 ∧ (nx c).1 ≠ 129 ∧ (nx c).1 ≠ 247 ∧ (nx c).1 ≠ 193) (h2 : 192 ≤ (nx c).1) : Ctr Try.prog 46 [.pointer (some ⟨b, 0, none⟩), .int .i64 r] [(b, cR s c)] tt
    (is (Ins.V ⟨rrM (nx c).1, lastD r (nx (nx c).2).1, (midD r (nx (nx c).2).1), 0, 0, 0, 0, 0, 0⟩) [(b, cR s ((nx (nx c).2).2))]) := by
  have hb := hs.byte
  have hm := hs.n1.byte
  have hm3 := hs.n1.n1.byte
  have l1 := lastE hr hb
  have l2 := lastE hr hm
  have l3 := lastE hr hm3
  have m2 := midE hr hm
  have m3 := midE hr hm3
  have f0 : cm .geq (nx c).1 184 = true := cmR_ge (by omega)
  have f1 : cm .lss (nx c).1 192 = false := cmR_lo' (by omega)
  have f2 : cm .eql (nx c).1 15 = false := cm_no (by omega)
  have f3 : cm .eql (nx c).1 139 = false := cm_no (by omega)
  have f4 : cm .eql (nx c).1 137 = false := cm_no (by omega)
  have f5 : cm .eql (nx c).1 141 = false := cm_no (by omega)
  have f6 : cm .eql (nx c).1 129 = false := cm_no (by omega)
  have f7 : cm .eql (nx c).1 247 = false := cm_no (by omega)
  have f8 : cm .eql (nx c).1 193 = false := cm_no (by omega)
  refine Ctr.enter Try.func46 Try.ntmps46 rfl rfl (fun w _ => ?_)
  repeat (first | refine Af ?_ | refine Ac ?_ | refine Aa ?_ | refine Ae ?_ | refine Ad ?_ | refine Ag ?_ | refine Ah ?_ | refine Ao ?_ | refine Ab 0 ?_ | refine As ?_ | refine Aq (fun _ => ?_) | refine Aj ?_ | refine Be ?_ | refine Ax ?_ | refine Aw ?_ | refine Bf ?_ | refine Ai ?_ | refine Ar ?_ | refine An ?_ | refine Ap ?_ | refine L.call1 1 (byteR_S b s c h16 hs) (by exact rfl) (by exact rfl) (by exact rfl) (fun _ _ => trivial) (by simp only [hset]; rfl) ?_ | refine L.call1 1 (byteR_S b s (nx c).2 h16 hs.n1) (by exact rfl) (by exact rfl) (by exact rfl) (fun _ _ => trivial) (by simp only [hset]; rfl) ?_ | refine L.call1 1 (byteR_S b s (nx (nx c).2).2 h16 hs.n1.n1) (by exact rfl) (by exact rfl) (by exact rfl) (fun _ _ => trivial) (by simp only [hset]; rfl) ?_ | refine L.callQ (rr_S (nx c).1) (k := ?_))
  (refine D.ret (vs := [_]) (RV.cellA 0 rfl rfl rfl rfl rfl RV.nil) ?_; intro w' hw; exact Post.mk (is := [1]) hw (by decide) rfl ⟨rfl, rfl⟩)
theorem wideR_S (r : Int) (hr : Byte r) (b : Nat) (s : ByteArray) (c : Cur) (h16 : s.size ≤ 1000000) (hs : Suf s c) : Ctr Try.prog 46 [.pointer (some ⟨b, 0, none⟩), .int .i64 r] [(b, cR s c)] tt
    (is (wideR r c).1.V [(b, cR s (wideR r c).2)]) := by
  unfold wideR wideRB
  have hm := hs.n1.byte
  have hm1 := hm.1
  have hm2 := hm.2
  by_cases h23 : (nx c).1 / 8 = 23
  · have hp : pairOp (nx c).1 = 0 := by unfold pairOp; repeat rw [if_neg (by omega)]
    rw [if_neg (by rw [hp]; decide), if_neg (by omega), if_neg (by omega), if_neg (by omega), if_pos h23]
    exact wideR_imm r hr b s c h16 hs h23
  by_cases h15 : (nx c).1 = 15
  · have hp : pairOp (nx c).1 = 0 := by rw [h15]; decide
    rw [if_neg (by rw [hp]; decide), if_neg (by omega), if_neg (by omega), if_neg (by omega), if_neg h23, if_pos h15]
    unfold cmovB cmovOp
    by_cases hx : (nx (nx c).2).1 = 66
    · rw [if_pos hx]; exact wideR_cmov66 r hr b s c h16 hs h15 hx
    · rw [if_neg hx]
      by_cases hy : (nx (nx c).2).1 = 69
      · rw [if_pos hy]; exact wideR_cmov69 r hr b s c h16 hs h15 hy
      · rw [if_neg hy]; exact wideR_cmov0 r hr b s c h16 hs h15 hx hy
  by_cases h139 : (nx c).1 = 139
  · have hp : pairOp (nx c).1 = 0 := by rw [h139]; decide
    rw [if_neg (by rw [hp]; decide), if_pos h139]
    exact wideR_load r hr b s c h16 hs h139
  by_cases h141 : (nx c).1 = 141
  · have hp : pairOp (nx c).1 = 0 := by rw [h141]; decide
    rw [if_neg (by rw [hp]; decide), if_neg h139, if_pos h141]
    exact wideR_lea r hr b s c h16 hs h141
  by_cases h137 : (nx c).1 = 137
  · have hp : pairOp (nx c).1 = 0 := by rw [h137]; decide
    rw [if_neg (by rw [hp]; decide), if_neg h139, if_neg h141, if_pos h137]
    unfold storeB
    by_cases hx : (nx (nx c).2).1 / 64 = 3
    · rw [if_pos hx]
      have := wideR_mov r hr b s c h16 hs h137 (by omega)
      rw [show rrM (nx c).1 = 1 by rw [h137]; decide] at this
      exact this
    · rw [if_neg hx]; exact wideR_store r hr b s c h16 hs h137 (by omega)
  by_cases h129 : (nx c).1 = 129
  · have hp : pairOp (nx c).1 = 0 := by rw [h129]; decide
    rw [if_neg (by rw [hp]; decide), if_neg h139, if_neg h141, if_neg h137, if_neg h23, if_neg h15]
    unfold grpR
    rw [if_pos h129]
    unfold grpOp
    rw [if_pos rfl]
    by_cases q0 : (midD r (nx (nx c).2).1) = 0
    · rw [if_pos q0]; exact wideR_grp15 r hr b s c h16 hs h129 q0
    rw [if_neg q0]
    by_cases q4 : (midD r (nx (nx c).2).1) = 4
    · rw [if_pos q4]; exact wideR_grp16 r hr b s c h16 hs h129 q4
    rw [if_neg q4]
    by_cases q5 : (midD r (nx (nx c).2).1) = 5
    · rw [if_pos q5]; exact wideR_grp17 r hr b s c h16 hs h129 q5
    rw [if_neg q5]
    by_cases q7 : (midD r (nx (nx c).2).1) = 7
    · rw [if_pos q7]; exact wideR_grp18 r hr b s c h16 hs h129 q7
    rw [if_neg q7]
    exact wideR_grp0 r hr b s c h16 hs h129 ⟨q0, q4, q5, q7⟩
  have hrest : pairOp (nx c).1 = 0 → rrM (nx c).1 = 0 := fun h => by unfold rrM; rw [if_neg h137]; exact h
  by_cases h247 : (nx c).1 = 247
  · have hp : pairOp (nx c).1 = 0 := by rw [h247]; decide
    rw [if_neg (by rw [hp]; decide), if_neg h139, if_neg h141, if_neg h137, if_neg h23, if_neg h15]
    unfold grpR
    rw [if_neg h129, h247]
    by_cases q3 : (midD r (nx (nx c).2).1) = 3
    · have e : grpOp 247 ((midD r (nx (nx c).2).1)) = (22, 0) := by rw [q3]; decide
      rw [e, if_neg (by decide)]
      exact wideR_neg r hr b s c h16 hs h247 q3
    by_cases q2 : (midD r (nx (nx c).2).1) = 2
    · have e : grpOp 247 ((midD r (nx (nx c).2).1)) = (23, 0) := by rw [q2]; decide
      rw [e, if_neg (by decide)]
      exact wideR_not r hr b s c h16 hs h247 q2
    have e : grpOp 247 ((midD r (nx (nx c).2).1)) = (0, 0) := by unfold grpOp; rw [if_neg (by decide), if_pos rfl, if_neg q3, if_neg q2]
    rw [e, if_pos rfl]
    have := wideR_o247 r hr b s c h16 hs h247 ⟨q3, q2⟩
    rw [hrest hp] at this
    exact this
  by_cases h193 : (nx c).1 = 193
  · have hp : pairOp (nx c).1 = 0 := by rw [h193]; decide
    rw [if_neg (by rw [hp]; decide), if_neg h139, if_neg h141, if_neg h137, if_neg h23, if_neg h15]
    unfold grpR
    rw [if_neg h129, h193]
    by_cases q4 : (midD r (nx (nx c).2).1) = 4
    · have e : grpOp 193 ((midD r (nx (nx c).2).1)) = (24, 1) := by rw [q4]; decide
      rw [e, if_neg (by decide)]
      exact wideR_shl r hr b s c h16 hs h193 q4
    by_cases q5 : (midD r (nx (nx c).2).1) = 5
    · have e : grpOp 193 ((midD r (nx (nx c).2).1)) = (25, 1) := by rw [q5]; decide
      rw [e, if_neg (by decide)]
      exact wideR_shr r hr b s c h16 hs h193 q5
    have e : grpOp 193 ((midD r (nx (nx c).2).1)) = (0, 0) := by unfold grpOp; rw [if_neg (by decide), if_neg (by decide), if_pos rfl, if_neg q4, if_neg q5]
    rw [e, if_pos rfl]
    have := wideR_o193 r hr b s c h16 hs h193 ⟨q4, q5⟩
    rw [hrest hp] at this
    exact this
  have key : Ctr Try.prog 46 [.pointer (some ⟨b, 0, none⟩), .int .i64 r] [(b, cR s c)] tt (is (Ins.V ⟨rrM (nx c).1, lastD r (nx (nx c).2).1, (midD r (nx (nx c).2).1), 0, 0, 0, 0, 0, 0⟩) [(b, cR s ((nx (nx c).2).2))]) := by
    have hb := hs.byte
    have hb1 := hb.1
    have hb2 := hb.2
    rcases Int.lt_or_le (nx c).1 184 with hl | hl
    · exact wideR_olo r hr b s c h16 hs ⟨h15, h139, h137, h141, h129, h247, h193⟩ hl
    · exact wideR_ohi r hr b s c h16 hs ⟨h15, h139, h137, h141, h129, h247, h193⟩ (by omega)
  by_cases hp : pairOp (nx c).1 = 0
  · rw [if_neg (by rw [hp]; decide), if_neg h139, if_neg h141, if_neg h137, if_neg h23, if_neg h15]
    unfold grpR
    have e : grpOp (nx c).1 ((midD r (nx (nx c).2).1)) = (0, 0) := by unfold grpOp; rw [if_neg h129, if_neg h247, if_neg h193]
    rw [if_neg h129, e, if_pos rfl]
    rw [hrest hp] at key
    exact key
  · rw [if_pos hp]
    have e : rrM (nx c).1 = pairOp (nx c).1 := by unfold rrM; rw [if_neg h137]
    rw [e] at key
    exact key
end Go.Proofs.Ytbcaelhchmoigaa
