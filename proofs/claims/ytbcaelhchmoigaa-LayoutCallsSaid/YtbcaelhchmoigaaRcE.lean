import Derived.Test.YtbcaelhchmoigaaRcC
set_option maxHeartbeats 4000000
set_option linter.unusedVariables false
set_option linter.unusedSimpArgs false
namespace Go.Proofs.Ytbcaelhchmoigaa
open Go.RowKit Calm SL
attribute [local irreducible] SL.L SL.C SL.D SL.N SL.H
def anyRB (b : Int) (c : Cur) : Ins × Cur :=
  if b = 195 then (⟨33, 0, 0, 0, 0, 0, 0, 0, 0⟩, c)
  else if b / 8 = 10 then (⟨28, 0, b % 8, 0, 0, 0, 0, 0, 0⟩, c)
  else if b / 8 = 11 then (⟨29, b % 8, 0, 0, 0, 0, 0, 0, 0⟩, c)
  else if b = 65 then (if (nx c).1 < 88 then (⟨28, 0, (nx c).1 % 8 + 8, 0, 0, 0, 0, 0, 0⟩, (nx c).2) else (⟨29, (nx c).1 % 8 + 8, 0, 0, 0, 0, 0, 0, 0⟩, (nx c).2))
  else if b = 233 then (⟨30, 0, 0, 0, 0, 0, 0, 0, (numD 4 c).1⟩, (numD 4 c).2)
  else if b = 15 then (⟨if (nx c).1 = 133 then 31 else 32, 0, 0, 0, 0, 0, 0, 0, (numD 4 (nx c).2).1⟩, (numD 4 (nx c).2).2)
  else if b = 196 then (mulD (nx c).1 (nx (nx c).2).1 (nx (nx (nx (nx c).2).2).2).1, (nx (nx (nx (nx c).2).2).2).2)
  else if b = 102 then chainD 20 c
  else if b = 243 then chainD 21 c
  else wideR b c
theorem anyR_eq (l : List Int) (k : Bool) : anyR l k = anyRB (nx (l, k)).1 (nx (l, k)).2 := by
  cases l with
  | nil => rfl
  | cons b r => rfl
theorem mulE {x y z : Int} (hx : Byte x) (hy : Byte y) (hz : Byte z) :
    ar .sub .i64 (ar .add .i64 (ar .rem .i64 (ar .quo .i64 z 8) 8) 8) (ar .mul .i64 (ar .quo .i64 x 128) 8) = (mulD x y z).d ∧
    ar .sub .i64 15 (ar .rem .i64 (ar .quo .i64 y 8) 16) = (mulD x y z).s ∧
    ar .sub .i64 (ar .add .i64 (ar .rem .i64 z 8) 8) (ar .mul .i64 (ar .rem .i64 (ar .quo .i64 x 32) 2) 8) = (mulD x y z).t := by
  have h1 := hx.1; have h2 := hx.2
  have subS : ∀ a b : Int, 0 ≤ a - b ∧ a - b ≤ 2000000 → ar .sub .i64 a b = a - b := fun a b h => wrap_nat h
  rw [quoB hz (by decide), quoB hx (by decide), quoB hx (by decide), quoB hy (by decide), remB (quo_byte hz (by decide)), remB (quo_byte hx (by decide)), remB (quo_byte hy (by decide)), remB hz]
  rw [addS (by omega), mulS (by omega), subS _ _ (by omega), subS _ _ (by omega), addS (by omega), mulS (by omega), subS _ _ (by omega)]
  have q1 : x / 128 = 0 ∨ x / 128 = 1 := by omega
  have q2 : x / 32 % 2 = 0 ∨ x / 32 % 2 = 1 := by omega
  unfold mulD midD lastD
  refine ⟨?_, ?_, ?_⟩
  · show z / 8 % 8 + 8 - x / 128 * 8 = _
    rcases q1 with q1 | q1 <;> rcases q2 with q2 | q2 <;> simp only [q1, q2] <;> omega
  · rfl
  · show z % 8 + 8 - x / 32 % 2 * 8 = _
    rcases q1 with q1 | q1 <;> rcases q2 with q2 | q2 <;> simp only [q1, q2] <;> omega
theorem anyR_ret (b : Nat) (s : ByteArray) (c : Cur) (h16 : s.size ≤ 1000000) (hs : Suf s c) (h : (nx c).1 = 195) : Ctr Try.prog 30 [.pointer (some ⟨b, 0, none⟩)] [(b, cR s c)] tt
    (is (Ins.V ⟨33, 0, 0, 0, 0, 0, 0, 0, 0⟩) [(b, cR s ((nx c).2))]) := by
  have hb := hs.byte
  have hb1 := hs.n1.byte
  have hb2 := hs.n1.n1.byte
  have hb4 := hs.n1.n1.n1.n1.byte
  have hb5 := hs.n1.n1.n1.n1.n1.byte
  have z1 := hb.1
  have z2 := hb.2
  have f0 : cm .eql (nx c).1 195 = true := cm_yes (by omega)
  refine Ctr.enter Try.func30 Try.ntmps30 rfl rfl (fun w _ => ?_)
  repeat (first | refine Af ?_ | refine Ac ?_ | refine Aa ?_ | refine Ae ?_ | refine Ad ?_ | refine Ag ?_ | refine Ah ?_ | refine Ab 0 ?_ | refine As ?_ | refine Aq (fun _ => ?_) | refine Am ?_ | refine Ai ?_ | refine An ?_ | refine Av ?_ | refine Bb ?_ | refine L.call1 1 (byteR_S b s c h16 hs) (by exact rfl) (by exact rfl) (by exact rfl) (fun _ _ => trivial) (by simp only [hset]; rfl) ?_ | refine L.call1 1 (byteR_S b s (nx c).2 h16 hs.n1) (by exact rfl) (by exact rfl) (by exact rfl) (fun _ _ => trivial) (by simp only [hset]; rfl) ?_ | refine L.call1 1 (byteR_S b s (nx (nx c).2).2 h16 hs.n1.n1) (by exact rfl) (by exact rfl) (by exact rfl) (fun _ _ => trivial) (by simp only [hset]; rfl) ?_ | refine L.call1 1 (byteR_S b s (nx (nx (nx c).2).2).2 h16 hs.n1.n1.n1) (by exact rfl) (by exact rfl) (by exact rfl) (fun _ _ => trivial) (by simp only [hset]; rfl) ?_ | refine L.call1 1 (byteR_S b s (nx (nx (nx (nx c).2).2).2).2 h16 hs.n1.n1.n1.n1) (by exact rfl) (by exact rfl) (by exact rfl) (fun _ _ => trivial) (by simp only [hset]; rfl) ?_ | refine L.call1 1 (byteR_S b s (nx (nx (nx (nx (nx c).2).2).2).2).2 h16 hs.n1.n1.n1.n1.n1) (by exact rfl) (by exact rfl) (by exact rfl) (fun _ _ => trivial) (by simp only [hset]; rfl) ?_)
  (refine D.ret (vs := [_]) (RV.cellA 0 rfl rfl rfl rfl rfl RV.nil) ?_; intro w' hw; exact Post.mk (is := [1]) hw (by decide) rfl ⟨rfl, rfl⟩)
theorem anyR_push (b : Nat) (s : ByteArray) (c : Cur) (h16 : s.size ≤ 1000000) (hs : Suf s c) (h : (nx c).1 / 8 = 10) : Ctr Try.prog 30 [.pointer (some ⟨b, 0, none⟩)] [(b, cR s c)] tt
    (is (Ins.V ⟨28, 0, (nx c).1 % 8, 0, 0, 0, 0, 0, 0⟩) [(b, cR s ((nx c).2))]) := by
  have hb := hs.byte
  have hb1 := hs.n1.byte
  have hb2 := hs.n1.n1.byte
  have hb4 := hs.n1.n1.n1.n1.byte
  have hb5 := hs.n1.n1.n1.n1.n1.byte
  have z1 := hb.1
  have z2 := hb.2
  have f0 : ar .rem .i64 (nx c).1 8 = (nx c).1 % 8 := remB hb
  have f1 : cm .eql (nx c).1 195 = false := cm_no (by omega)
  have f2 : cm .geq (nx c).1 80 = true := cmR_ge (by omega)
  have f3 : cm .lss (nx c).1 88 = true := cmR_lo (by omega)
  refine Ctr.enter Try.func30 Try.ntmps30 rfl rfl (fun w _ => ?_)
  repeat (first | refine Af ?_ | refine Ac ?_ | refine Aa ?_ | refine Ae ?_ | refine Ad ?_ | refine Ag ?_ | refine Ah ?_ | refine Ao ?_ | refine Ab 0 ?_ | refine As ?_ | refine Aq (fun _ => ?_) | refine Am ?_ | refine Aj ?_ | refine Be ?_ | refine Aw ?_ | refine Ai ?_ | refine An ?_ | refine Av ?_ | refine Bb ?_ | refine L.call1 1 (byteR_S b s c h16 hs) (by exact rfl) (by exact rfl) (by exact rfl) (fun _ _ => trivial) (by simp only [hset]; rfl) ?_ | refine L.call1 1 (byteR_S b s (nx c).2 h16 hs.n1) (by exact rfl) (by exact rfl) (by exact rfl) (fun _ _ => trivial) (by simp only [hset]; rfl) ?_ | refine L.call1 1 (byteR_S b s (nx (nx c).2).2 h16 hs.n1.n1) (by exact rfl) (by exact rfl) (by exact rfl) (fun _ _ => trivial) (by simp only [hset]; rfl) ?_ | refine L.call1 1 (byteR_S b s (nx (nx (nx c).2).2).2 h16 hs.n1.n1.n1) (by exact rfl) (by exact rfl) (by exact rfl) (fun _ _ => trivial) (by simp only [hset]; rfl) ?_ | refine L.call1 1 (byteR_S b s (nx (nx (nx (nx c).2).2).2).2 h16 hs.n1.n1.n1.n1) (by exact rfl) (by exact rfl) (by exact rfl) (fun _ _ => trivial) (by simp only [hset]; rfl) ?_ | refine L.call1 1 (byteR_S b s (nx (nx (nx (nx (nx c).2).2).2).2).2 h16 hs.n1.n1.n1.n1.n1) (by exact rfl) (by exact rfl) (by exact rfl) (fun _ _ => trivial) (by simp only [hset]; rfl) ?_)
  (refine D.ret (vs := [_]) (RV.cellA 0 rfl rfl rfl rfl rfl RV.nil) ?_; intro w' hw; exact Post.mk (is := [1]) hw (by decide) rfl ⟨rfl, rfl⟩)
theorem anyR_pop (b : Nat) (s : ByteArray) (c : Cur) (h16 : s.size ≤ 1000000) (hs : Suf s c) (h : (nx c).1 / 8 = 11) : Ctr Try.prog 30 [.pointer (some ⟨b, 0, none⟩)] [(b, cR s c)] tt
    (is (Ins.V ⟨29, (nx c).1 % 8, 0, 0, 0, 0, 0, 0, 0⟩) [(b, cR s ((nx c).2))]) := by
  have hb := hs.byte
  have hb1 := hs.n1.byte
  have hb2 := hs.n1.n1.byte
  have hb4 := hs.n1.n1.n1.n1.byte
  have hb5 := hs.n1.n1.n1.n1.n1.byte
  have z1 := hb.1
  have z2 := hb.2
  have f0 : ar .rem .i64 (nx c).1 8 = (nx c).1 % 8 := remB hb
  have f1 : cm .eql (nx c).1 195 = false := cm_no (by omega)
  have f2 : cm .geq (nx c).1 80 = true := cmR_ge (by omega)
  have f3 : cm .lss (nx c).1 88 = false := cmR_lo' (by omega)
  have f4 : cm .geq (nx c).1 88 = true := cmR_ge (by omega)
  have f5 : cm .lss (nx c).1 96 = true := cmR_lo (by omega)
  refine Ctr.enter Try.func30 Try.ntmps30 rfl rfl (fun w _ => ?_)
  repeat (first | refine Af ?_ | refine Ac ?_ | refine Aa ?_ | refine Ae ?_ | refine Ad ?_ | refine Ag ?_ | refine Ah ?_ | refine Ao ?_ | refine Ab 0 ?_ | refine As ?_ | refine Aq (fun _ => ?_) | refine Am ?_ | refine Aj ?_ | refine Be ?_ | refine Aw ?_ | refine Ai ?_ | refine An ?_ | refine Av ?_ | refine Bb ?_ | refine L.call1 1 (byteR_S b s c h16 hs) (by exact rfl) (by exact rfl) (by exact rfl) (fun _ _ => trivial) (by simp only [hset]; rfl) ?_ | refine L.call1 1 (byteR_S b s (nx c).2 h16 hs.n1) (by exact rfl) (by exact rfl) (by exact rfl) (fun _ _ => trivial) (by simp only [hset]; rfl) ?_ | refine L.call1 1 (byteR_S b s (nx (nx c).2).2 h16 hs.n1.n1) (by exact rfl) (by exact rfl) (by exact rfl) (fun _ _ => trivial) (by simp only [hset]; rfl) ?_ | refine L.call1 1 (byteR_S b s (nx (nx (nx c).2).2).2 h16 hs.n1.n1.n1) (by exact rfl) (by exact rfl) (by exact rfl) (fun _ _ => trivial) (by simp only [hset]; rfl) ?_ | refine L.call1 1 (byteR_S b s (nx (nx (nx (nx c).2).2).2).2 h16 hs.n1.n1.n1.n1) (by exact rfl) (by exact rfl) (by exact rfl) (fun _ _ => trivial) (by simp only [hset]; rfl) ?_ | refine L.call1 1 (byteR_S b s (nx (nx (nx (nx (nx c).2).2).2).2).2 h16 hs.n1.n1.n1.n1.n1) (by exact rfl) (by exact rfl) (by exact rfl) (fun _ _ => trivial) (by simp only [hset]; rfl) ?_)
  (refine D.ret (vs := [_]) (RV.cellA 0 rfl rfl rfl rfl rfl RV.nil) ?_; intro w' hw; exact Post.mk (is := [1]) hw (by decide) rfl ⟨rfl, rfl⟩)
theorem anyR_up28 (b : Nat) (s : ByteArray) (c : Cur) (h16 : s.size ≤ 1000000) (hs : Suf s c) (h : (nx c).1 = 65) (h2 : (nx (nx c).2).1 < 88) : Ctr Try.prog 30 [.pointer (some ⟨b, 0, none⟩)] [(b, cR s c)] tt
    (is (Ins.V ⟨28, 0, (nx (nx c).2).1 % 8 + 8, 0, 0, 0, 0, 0, 0⟩) [(b, cR s ((nx (nx c).2).2))]) := by
  have hb := hs.byte
  have hb1 := hs.n1.byte
  have hb2 := hs.n1.n1.byte
  have hb4 := hs.n1.n1.n1.n1.byte
  have hb5 := hs.n1.n1.n1.n1.n1.byte
  have z1 := hb.1
  have z2 := hb.2
  have f0 : cm .eql (nx c).1 195 = false := cm_no (by omega)
  have f1 : cm .geq (nx c).1 80 = false := cmR_ge' (by omega)
  have f2 : cm .geq (nx c).1 88 = false := cmR_ge' (by omega)
  have f3 : cm .eql (nx c).1 65 = true := cm_yes (by omega)
  have f4 : ar .add .i64 (ar .rem .i64 (nx (nx c).2).1 8) 8 = (nx (nx c).2).1 % 8 + 8 := by rw [remB hb1]; exact addS (by omega)
  have f5 : cm .lss (nx (nx c).2).1 88 = true := cmR_lo (by omega)
  refine Ctr.enter Try.func30 Try.ntmps30 rfl rfl (fun w _ => ?_)
  repeat (first | refine Af ?_ | refine Ac ?_ | refine Aa ?_ | refine Ae ?_ | refine Ad ?_ | refine Ag ?_ | refine Ah ?_ | refine Ao ?_ | refine Ab 0 ?_ | refine As ?_ | refine Aq (fun _ => ?_) | refine Am ?_ | refine Aj ?_ | refine Ax ?_ | refine Bf ?_ | refine Ai ?_ | refine An ?_ | refine Av ?_ | refine Bb ?_ | refine L.call1 1 (byteR_S b s c h16 hs) (by exact rfl) (by exact rfl) (by exact rfl) (fun _ _ => trivial) (by simp only [hset]; rfl) ?_ | refine L.call1 1 (byteR_S b s (nx c).2 h16 hs.n1) (by exact rfl) (by exact rfl) (by exact rfl) (fun _ _ => trivial) (by simp only [hset]; rfl) ?_ | refine L.call1 1 (byteR_S b s (nx (nx c).2).2 h16 hs.n1.n1) (by exact rfl) (by exact rfl) (by exact rfl) (fun _ _ => trivial) (by simp only [hset]; rfl) ?_ | refine L.call1 1 (byteR_S b s (nx (nx (nx c).2).2).2 h16 hs.n1.n1.n1) (by exact rfl) (by exact rfl) (by exact rfl) (fun _ _ => trivial) (by simp only [hset]; rfl) ?_ | refine L.call1 1 (byteR_S b s (nx (nx (nx (nx c).2).2).2).2 h16 hs.n1.n1.n1.n1) (by exact rfl) (by exact rfl) (by exact rfl) (fun _ _ => trivial) (by simp only [hset]; rfl) ?_ | refine L.call1 1 (byteR_S b s (nx (nx (nx (nx (nx c).2).2).2).2).2 h16 hs.n1.n1.n1.n1.n1) (by exact rfl) (by exact rfl) (by exact rfl) (fun _ _ => trivial) (by simp only [hset]; rfl) ?_)
  (refine D.ret (vs := [_]) (RV.cellA 0 rfl rfl rfl rfl rfl RV.nil) ?_; intro w' hw; exact Post.mk (is := [1]) hw (by decide) rfl ⟨rfl, rfl⟩)
theorem anyR_up29 (b : Nat) (s : ByteArray) (c : Cur) (h16 : s.size ≤ 1000000) (hs : Suf s c) (h : (nx c).1 = 65) (h2 : 88 ≤ (nx (nx c).2).1) : Ctr Try.prog 30 [.pointer (some ⟨b, 0, none⟩)] [(b, cR s c)] tt
    (is (Ins.V ⟨29, (nx (nx c).2).1 % 8 + 8, 0, 0, 0, 0, 0, 0, 0⟩) [(b, cR s ((nx (nx c).2).2))]) := by
  have hb := hs.byte
  have hb1 := hs.n1.byte
  have hb2 := hs.n1.n1.byte
  have hb4 := hs.n1.n1.n1.n1.byte
  have hb5 := hs.n1.n1.n1.n1.n1.byte
  have z1 := hb.1
  have z2 := hb.2
  have f0 : cm .eql (nx c).1 195 = false := cm_no (by omega)
  have f1 : cm .geq (nx c).1 80 = false := cmR_ge' (by omega)
  have f2 : cm .geq (nx c).1 88 = false := cmR_ge' (by omega)
  have f3 : cm .eql (nx c).1 65 = true := cm_yes (by omega)
  have f4 : ar .add .i64 (ar .rem .i64 (nx (nx c).2).1 8) 8 = (nx (nx c).2).1 % 8 + 8 := by rw [remB hb1]; exact addS (by omega)
  have f5 : cm .lss (nx (nx c).2).1 88 = false := cmR_lo' (by omega)
  refine Ctr.enter Try.func30 Try.ntmps30 rfl rfl (fun w _ => ?_)
  repeat (first | refine Af ?_ | refine Ac ?_ | refine Aa ?_ | refine Ae ?_ | refine Ad ?_ | refine Ag ?_ | refine Ah ?_ | refine Ao ?_ | refine Ab 0 ?_ | refine As ?_ | refine Aq (fun _ => ?_) | refine Am ?_ | refine Aj ?_ | refine Ax ?_ | refine Bf ?_ | refine Ai ?_ | refine An ?_ | refine Av ?_ | refine Bb ?_ | refine Ap ?_ | refine L.call1 1 (byteR_S b s c h16 hs) (by exact rfl) (by exact rfl) (by exact rfl) (fun _ _ => trivial) (by simp only [hset]; rfl) ?_ | refine L.call1 1 (byteR_S b s (nx c).2 h16 hs.n1) (by exact rfl) (by exact rfl) (by exact rfl) (fun _ _ => trivial) (by simp only [hset]; rfl) ?_ | refine L.call1 1 (byteR_S b s (nx (nx c).2).2 h16 hs.n1.n1) (by exact rfl) (by exact rfl) (by exact rfl) (fun _ _ => trivial) (by simp only [hset]; rfl) ?_ | refine L.call1 1 (byteR_S b s (nx (nx (nx c).2).2).2 h16 hs.n1.n1.n1) (by exact rfl) (by exact rfl) (by exact rfl) (fun _ _ => trivial) (by simp only [hset]; rfl) ?_ | refine L.call1 1 (byteR_S b s (nx (nx (nx (nx c).2).2).2).2 h16 hs.n1.n1.n1.n1) (by exact rfl) (by exact rfl) (by exact rfl) (fun _ _ => trivial) (by simp only [hset]; rfl) ?_ | refine L.call1 1 (byteR_S b s (nx (nx (nx (nx (nx c).2).2).2).2).2 h16 hs.n1.n1.n1.n1.n1) (by exact rfl) (by exact rfl) (by exact rfl) (fun _ _ => trivial) (by simp only [hset]; rfl) ?_)
  (refine D.ret (vs := [_]) (RV.cellA 0 rfl rfl rfl rfl rfl RV.nil) ?_; intro w' hw; exact Post.mk (is := [1]) hw (by decide) rfl ⟨rfl, rfl⟩)
theorem anyR_jmp (b : Nat) (s : ByteArray) (c : Cur) (h16 : s.size ≤ 1000000) (hs : Suf s c) (h : (nx c).1 = 233) : Ctr Try.prog 30 [.pointer (some ⟨b, 0, none⟩)] [(b, cR s c)] tt
    (is (Ins.V ⟨30, 0, 0, 0, 0, 0, 0, 0, (numD 4 (nx c).2).1⟩) [(b, cR s ((numD 4 (nx c).2).2))]) := by
  have hb := hs.byte
  have hb1 := hs.n1.byte
  have hb2 := hs.n1.n1.byte
  have hb4 := hs.n1.n1.n1.n1.byte
  have hb5 := hs.n1.n1.n1.n1.n1.byte
  have z1 := hb.1
  have z2 := hb.2
  have f0 : cm .eql (nx c).1 195 = false := cm_no (by omega)
  have f1 : cm .geq (nx c).1 80 = true := cmR_ge (by omega)
  have f2 : cm .lss (nx c).1 88 = false := cmR_lo' (by omega)
  have f3 : cm .geq (nx c).1 88 = true := cmR_ge (by omega)
  have f4 : cm .lss (nx c).1 96 = false := cmR_lo' (by omega)
  have f5 : cm .eql (nx c).1 65 = false := cm_no (by omega)
  have f6 : cm .eql (nx c).1 233 = true := cm_yes (by omega)
  refine Ctr.enter Try.func30 Try.ntmps30 rfl rfl (fun w _ => ?_)
  repeat (first | refine Af ?_ | refine Ac ?_ | refine Aa ?_ | refine Ae ?_ | refine Ad ?_ | refine Ag ?_ | refine Ah ?_ | refine Ab 0 ?_ | refine As ?_ | refine Aq (fun _ => ?_) | refine Am ?_ | refine Aj ?_ | refine Be ?_ | refine Aw ?_ | refine Ai ?_ | refine An ?_ | refine Av ?_ | refine Bb ?_ | refine L.call1 1 (byteR_S b s c h16 hs) (by exact rfl) (by exact rfl) (by exact rfl) (fun _ _ => trivial) (by simp only [hset]; rfl) ?_ | refine L.call1 1 (byteR_S b s (nx c).2 h16 hs.n1) (by exact rfl) (by exact rfl) (by exact rfl) (fun _ _ => trivial) (by simp only [hset]; rfl) ?_ | refine L.call1 1 (byteR_S b s (nx (nx c).2).2 h16 hs.n1.n1) (by exact rfl) (by exact rfl) (by exact rfl) (fun _ _ => trivial) (by simp only [hset]; rfl) ?_ | refine L.call1 1 (byteR_S b s (nx (nx (nx c).2).2).2 h16 hs.n1.n1.n1) (by exact rfl) (by exact rfl) (by exact rfl) (fun _ _ => trivial) (by simp only [hset]; rfl) ?_ | refine L.call1 1 (byteR_S b s (nx (nx (nx (nx c).2).2).2).2 h16 hs.n1.n1.n1.n1) (by exact rfl) (by exact rfl) (by exact rfl) (fun _ _ => trivial) (by simp only [hset]; rfl) ?_ | refine L.call1 1 (byteR_S b s (nx (nx (nx (nx (nx c).2).2).2).2).2 h16 hs.n1.n1.n1.n1.n1) (by exact rfl) (by exact rfl) (by exact rfl) (fun _ _ => trivial) (by simp only [hset]; rfl) ?_ | refine L.call1 1 (numberR_S 4 (by decide) b s (nx c).2 h16 hs.n1) (by exact rfl) (by exact rfl) (by exact rfl) (fun _ _ => trivial) (by simp only [hset]; rfl) ?_)
  (refine D.ret (vs := [_]) (RV.cellA 0 rfl rfl rfl rfl rfl RV.nil) ?_; intro w' hw; exact Post.mk (is := [1]) hw (by decide) rfl ⟨rfl, rfl⟩)
theorem anyR_jnz (b : Nat) (s : ByteArray) (c : Cur) (h16 : s.size ≤ 1000000) (hs : Suf s c) (h : (nx c).1 = 15) (h2 : (nx (nx c).2).1 = 133) : Ctr Try.prog 30 [.pointer (some ⟨b, 0, none⟩)] [(b, cR s c)] tt
    (is (Ins.V ⟨31, 0, 0, 0, 0, 0, 0, 0, (numD 4 (nx (nx c).2).2).1⟩) [(b, cR s ((numD 4 (nx (nx c).2).2).2))]) := by
  have hb := hs.byte
  have hb1 := hs.n1.byte
  have hb2 := hs.n1.n1.byte
  have hb4 := hs.n1.n1.n1.n1.byte
  have hb5 := hs.n1.n1.n1.n1.n1.byte
  have z1 := hb.1
  have z2 := hb.2
  have f0 : cm .eql (nx c).1 195 = false := cm_no (by omega)
  have f1 : cm .geq (nx c).1 80 = false := cmR_ge' (by omega)
  have f2 : cm .geq (nx c).1 88 = false := cmR_ge' (by omega)
  have f3 : cm .eql (nx c).1 65 = false := cm_no (by omega)
  have f4 : cm .eql (nx c).1 233 = false := cm_no (by omega)
  have f5 : cm .eql (nx c).1 15 = true := cm_yes (by omega)
  have f6 : cm .eql (nx (nx c).2).1 133 = true := cm_yes (by omega)
  refine Ctr.enter Try.func30 Try.ntmps30 rfl rfl (fun w _ => ?_)
  repeat (first | refine Af ?_ | refine Ac ?_ | refine Aa ?_ | refine Ae ?_ | refine Ad ?_ | refine Ag ?_ | refine Ah ?_ | refine Ab 0 ?_ | refine As ?_ | refine Aq (fun _ => ?_) | refine Am ?_ | refine Aj ?_ | refine Ax ?_ | refine Bf ?_ | refine Ai ?_ | refine An ?_ | refine Av ?_ | refine Bb ?_ | refine L.call1 1 (byteR_S b s c h16 hs) (by exact rfl) (by exact rfl) (by exact rfl) (fun _ _ => trivial) (by simp only [hset]; rfl) ?_ | refine L.call1 1 (byteR_S b s (nx c).2 h16 hs.n1) (by exact rfl) (by exact rfl) (by exact rfl) (fun _ _ => trivial) (by simp only [hset]; rfl) ?_ | refine L.call1 1 (byteR_S b s (nx (nx c).2).2 h16 hs.n1.n1) (by exact rfl) (by exact rfl) (by exact rfl) (fun _ _ => trivial) (by simp only [hset]; rfl) ?_ | refine L.call1 1 (byteR_S b s (nx (nx (nx c).2).2).2 h16 hs.n1.n1.n1) (by exact rfl) (by exact rfl) (by exact rfl) (fun _ _ => trivial) (by simp only [hset]; rfl) ?_ | refine L.call1 1 (byteR_S b s (nx (nx (nx (nx c).2).2).2).2 h16 hs.n1.n1.n1.n1) (by exact rfl) (by exact rfl) (by exact rfl) (fun _ _ => trivial) (by simp only [hset]; rfl) ?_ | refine L.call1 1 (byteR_S b s (nx (nx (nx (nx (nx c).2).2).2).2).2 h16 hs.n1.n1.n1.n1.n1) (by exact rfl) (by exact rfl) (by exact rfl) (fun _ _ => trivial) (by simp only [hset]; rfl) ?_ | refine L.call1 1 (numberR_S 4 (by decide) b s (nx (nx c).2).2 h16 hs.n1.n1) (by exact rfl) (by exact rfl) (by exact rfl) (fun _ _ => trivial) (by simp only [hset]; rfl) ?_)
  (refine D.ret (vs := [_]) (RV.cellA 0 rfl rfl rfl rfl rfl RV.nil) ?_; intro w' hw; exact Post.mk (is := [1]) hw (by decide) rfl ⟨rfl, rfl⟩)
theorem anyR_jc (b : Nat) (s : ByteArray) (c : Cur) (h16 : s.size ≤ 1000000) (hs : Suf s c) (h : (nx c).1 = 15) (h2 : (nx (nx c).2).1 ≠ 133) : Ctr Try.prog 30 [.pointer (some ⟨b, 0, none⟩)] [(b, cR s c)] tt
    (is (Ins.V ⟨32, 0, 0, 0, 0, 0, 0, 0, (numD 4 (nx (nx c).2).2).1⟩) [(b, cR s ((numD 4 (nx (nx c).2).2).2))]) := by
  have hb := hs.byte
  have hb1 := hs.n1.byte
  have hb2 := hs.n1.n1.byte
  have hb4 := hs.n1.n1.n1.n1.byte
  have hb5 := hs.n1.n1.n1.n1.n1.byte
  have z1 := hb.1
  have z2 := hb.2
  have f0 : cm .eql (nx c).1 195 = false := cm_no (by omega)
  have f1 : cm .geq (nx c).1 80 = false := cmR_ge' (by omega)
  have f2 : cm .geq (nx c).1 88 = false := cmR_ge' (by omega)
  have f3 : cm .eql (nx c).1 65 = false := cm_no (by omega)
  have f4 : cm .eql (nx c).1 233 = false := cm_no (by omega)
  have f5 : cm .eql (nx c).1 15 = true := cm_yes (by omega)
  have f6 : cm .eql (nx (nx c).2).1 133 = false := cm_no (by omega)
  refine Ctr.enter Try.func30 Try.ntmps30 rfl rfl (fun w _ => ?_)
  repeat (first | refine Af ?_ | refine Ac ?_ | refine Aa ?_ | refine Ae ?_ | refine Ad ?_ | refine Ag ?_ | refine Ah ?_ | refine Ab 0 ?_ | refine As ?_ | refine Aq (fun _ => ?_) | refine Am ?_ | refine Aj ?_ | refine Ax ?_ | refine Bf ?_ | refine Ai ?_ | refine An ?_ | refine Av ?_ | refine Bb ?_ | refine Ap ?_ | refine L.call1 1 (byteR_S b s c h16 hs) (by exact rfl) (by exact rfl) (by exact rfl) (fun _ _ => trivial) (by simp only [hset]; rfl) ?_ | refine L.call1 1 (byteR_S b s (nx c).2 h16 hs.n1) (by exact rfl) (by exact rfl) (by exact rfl) (fun _ _ => trivial) (by simp only [hset]; rfl) ?_ | refine L.call1 1 (byteR_S b s (nx (nx c).2).2 h16 hs.n1.n1) (by exact rfl) (by exact rfl) (by exact rfl) (fun _ _ => trivial) (by simp only [hset]; rfl) ?_ | refine L.call1 1 (byteR_S b s (nx (nx (nx c).2).2).2 h16 hs.n1.n1.n1) (by exact rfl) (by exact rfl) (by exact rfl) (fun _ _ => trivial) (by simp only [hset]; rfl) ?_ | refine L.call1 1 (byteR_S b s (nx (nx (nx (nx c).2).2).2).2 h16 hs.n1.n1.n1.n1) (by exact rfl) (by exact rfl) (by exact rfl) (fun _ _ => trivial) (by simp only [hset]; rfl) ?_ | refine L.call1 1 (byteR_S b s (nx (nx (nx (nx (nx c).2).2).2).2).2 h16 hs.n1.n1.n1.n1.n1) (by exact rfl) (by exact rfl) (by exact rfl) (fun _ _ => trivial) (by simp only [hset]; rfl) ?_ | refine L.call1 1 (numberR_S 4 (by decide) b s (nx (nx c).2).2 h16 hs.n1.n1) (by exact rfl) (by exact rfl) (by exact rfl) (fun _ _ => trivial) (by simp only [hset]; rfl) ?_)
  (refine D.ret (vs := [_]) (RV.cellA 0 rfl rfl rfl rfl rfl RV.nil) ?_; intro w' hw; exact Post.mk (is := [1]) hw (by decide) rfl ⟨rfl, rfl⟩)
theorem anyR_mulx (b : Nat) (s : ByteArray) (c : Cur) (h16 : s.size ≤ 1000000) (hs : Suf s c) (h : (nx c).1 = 196) : Ctr Try.prog 30 [.pointer (some ⟨b, 0, none⟩)] [(b, cR s c)] tt
    (is (Ins.V ⟨19, (mulD (nx (nx c).2).1 (nx (nx (nx c).2).2).1 (nx (nx (nx (nx (nx c).2).2).2).2).1).d, (mulD (nx (nx c).2).1 (nx (nx (nx c).2).2).1 (nx (nx (nx (nx (nx c).2).2).2).2).1).s, (mulD (nx (nx c).2).1 (nx (nx (nx c).2).2).1 (nx (nx (nx (nx (nx c).2).2).2).2).1).t, 0, 0, 0, 0, 0⟩) [(b, cR s ((nx (nx (nx (nx (nx c).2).2).2).2).2))]) := by
  have hb := hs.byte
  have hb1 := hs.n1.byte
  have hb2 := hs.n1.n1.byte
  have hb4 := hs.n1.n1.n1.n1.byte
  have hb5 := hs.n1.n1.n1.n1.n1.byte
  have z1 := hb.1
  have z2 := hb.2
  have f0 : cm .eql (nx c).1 195 = false := cm_no (by omega)
  have f1 : cm .geq (nx c).1 80 = true := cmR_ge (by omega)
  have f2 : cm .lss (nx c).1 88 = false := cmR_lo' (by omega)
  have f3 : cm .geq (nx c).1 88 = true := cmR_ge (by omega)
  have f4 : cm .lss (nx c).1 96 = false := cmR_lo' (by omega)
  have f5 : cm .eql (nx c).1 65 = false := cm_no (by omega)
  have f6 : cm .eql (nx c).1 233 = false := cm_no (by omega)
  have f7 : cm .eql (nx c).1 15 = false := cm_no (by omega)
  have f8 : cm .eql (nx c).1 196 = true := cm_yes (by omega)
  obtain ⟨u1, u2, u3⟩ := mulE hb1 hb2 hb4
  refine Ctr.enter Try.func30 Try.ntmps30 rfl rfl (fun w _ => ?_)
  repeat (first | refine Af ?_ | refine Ac ?_ | refine Aa ?_ | refine Ae ?_ | refine Ad ?_ | refine Ag ?_ | refine Ah ?_ | refine Ao ?_ | refine Ab 0 ?_ | refine As ?_ | refine Aq (fun _ => ?_) | refine Am ?_ | refine Aj ?_ | refine Be ?_ | refine Aw ?_ | refine Ai ?_ | refine An ?_ | refine Av ?_ | refine Bb ?_ | refine L.call1 1 (byteR_S b s c h16 hs) (by exact rfl) (by exact rfl) (by exact rfl) (fun _ _ => trivial) (by simp only [hset]; rfl) ?_ | refine L.call1 1 (byteR_S b s (nx c).2 h16 hs.n1) (by exact rfl) (by exact rfl) (by exact rfl) (fun _ _ => trivial) (by simp only [hset]; rfl) ?_ | refine L.call1 1 (byteR_S b s (nx (nx c).2).2 h16 hs.n1.n1) (by exact rfl) (by exact rfl) (by exact rfl) (fun _ _ => trivial) (by simp only [hset]; rfl) ?_ | refine L.call1 1 (byteR_S b s (nx (nx (nx c).2).2).2 h16 hs.n1.n1.n1) (by exact rfl) (by exact rfl) (by exact rfl) (fun _ _ => trivial) (by simp only [hset]; rfl) ?_ | refine L.call1 1 (byteR_S b s (nx (nx (nx (nx c).2).2).2).2 h16 hs.n1.n1.n1.n1) (by exact rfl) (by exact rfl) (by exact rfl) (fun _ _ => trivial) (by simp only [hset]; rfl) ?_ | refine L.call1 1 (byteR_S b s (nx (nx (nx (nx (nx c).2).2).2).2).2 h16 hs.n1.n1.n1.n1.n1) (by exact rfl) (by exact rfl) (by exact rfl) (fun _ _ => trivial) (by simp only [hset]; rfl) ?_)
  (refine D.ret (vs := [_]) (RV.cellA 0 rfl rfl rfl rfl rfl RV.nil) ?_; intro w' hw; exact Post.mk (is := [1]) hw (by decide) rfl ⟨rfl, rfl⟩)
theorem anyR_chain20 (b : Nat) (s : ByteArray) (c : Cur) (h16 : s.size ≤ 1000000) (hs : Suf s c) (h : (nx c).1 = 102) : Ctr Try.prog 30 [.pointer (some ⟨b, 0, none⟩)] [(b, cR s c)] tt
    (is (Ins.V ⟨20, midD (nx (nx c).2).1 (nx (nx (nx (nx (nx (nx c).2).2).2).2).2).1, lastD (nx (nx c).2).1 (nx (nx (nx (nx (nx (nx c).2).2).2).2).2).1, 0, 0, 0, 0, 0, 0⟩) [(b, cR s ((nx (nx (nx (nx (nx (nx c).2).2).2).2).2).2))]) := by
  have hb := hs.byte
  have hb1 := hs.n1.byte
  have hb2 := hs.n1.n1.byte
  have hb4 := hs.n1.n1.n1.n1.byte
  have hb5 := hs.n1.n1.n1.n1.n1.byte
  have z1 := hb.1
  have z2 := hb.2
  have f0 : cm .eql (nx c).1 195 = false := cm_no (by omega)
  have f1 : cm .geq (nx c).1 80 = true := cmR_ge (by omega)
  have f2 : cm .lss (nx c).1 88 = false := cmR_lo' (by omega)
  have f3 : cm .geq (nx c).1 88 = true := cmR_ge (by omega)
  have f4 : cm .lss (nx c).1 96 = false := cmR_lo' (by omega)
  have f5 : cm .eql (nx c).1 65 = false := cm_no (by omega)
  have f6 : cm .eql (nx c).1 233 = false := cm_no (by omega)
  have f7 : cm .eql (nx c).1 15 = false := cm_no (by omega)
  have f8 : cm .eql (nx c).1 196 = false := cm_no (by omega)
  have f9 : cm .eql (nx c).1 102 = true := cm_yes (by omega)
  have f10 : cm .eql (nx c).1 243 = false := cm_no (by omega)
  have f11 := midE hb1 hb5
  have f12 := lastE hb1 hb5
  refine Ctr.enter Try.func30 Try.ntmps30 rfl rfl (fun w _ => ?_)
  repeat (first | refine Af ?_ | refine Ac ?_ | refine Aa ?_ | refine Ae ?_ | refine Ad ?_ | refine Ag ?_ | refine Ah ?_ | refine Ao ?_ | refine Ab 0 ?_ | refine As ?_ | refine Aq (fun _ => ?_) | refine Am ?_ | refine Aj ?_ | refine Be ?_ | refine Aw ?_ | refine Bf ?_ | refine Ai ?_ | refine An ?_ | refine Av ?_ | refine Bb ?_ | refine Ap ?_ | refine L.call1 1 (byteR_S b s c h16 hs) (by exact rfl) (by exact rfl) (by exact rfl) (fun _ _ => trivial) (by simp only [hset]; rfl) ?_ | refine L.call1 1 (byteR_S b s (nx c).2 h16 hs.n1) (by exact rfl) (by exact rfl) (by exact rfl) (fun _ _ => trivial) (by simp only [hset]; rfl) ?_ | refine L.call1 1 (byteR_S b s (nx (nx c).2).2 h16 hs.n1.n1) (by exact rfl) (by exact rfl) (by exact rfl) (fun _ _ => trivial) (by simp only [hset]; rfl) ?_ | refine L.call1 1 (byteR_S b s (nx (nx (nx c).2).2).2 h16 hs.n1.n1.n1) (by exact rfl) (by exact rfl) (by exact rfl) (fun _ _ => trivial) (by simp only [hset]; rfl) ?_ | refine L.call1 1 (byteR_S b s (nx (nx (nx (nx c).2).2).2).2 h16 hs.n1.n1.n1.n1) (by exact rfl) (by exact rfl) (by exact rfl) (fun _ _ => trivial) (by simp only [hset]; rfl) ?_ | refine L.call1 1 (byteR_S b s (nx (nx (nx (nx (nx c).2).2).2).2).2 h16 hs.n1.n1.n1.n1.n1) (by exact rfl) (by exact rfl) (by exact rfl) (fun _ _ => trivial) (by simp only [hset]; rfl) ?_)
  (refine D.ret (vs := [_]) (RV.cellA 0 rfl rfl rfl rfl rfl RV.nil) ?_; intro w' hw; exact Post.mk (is := [1]) hw (by decide) rfl ⟨rfl, rfl⟩)
theorem anyR_chain21 (b : Nat) (s : ByteArray) (c : Cur) (h16 : s.size ≤ 1000000) (hs : Suf s c) (h : (nx c).1 = 243) : Ctr Try.prog 30 [.pointer (some ⟨b, 0, none⟩)] [(b, cR s c)] tt
    (is (Ins.V ⟨21, midD (nx (nx c).2).1 (nx (nx (nx (nx (nx (nx c).2).2).2).2).2).1, lastD (nx (nx c).2).1 (nx (nx (nx (nx (nx (nx c).2).2).2).2).2).1, 0, 0, 0, 0, 0, 0⟩) [(b, cR s ((nx (nx (nx (nx (nx (nx c).2).2).2).2).2).2))]) := by
  have hb := hs.byte
  have hb1 := hs.n1.byte
  have hb2 := hs.n1.n1.byte
  have hb4 := hs.n1.n1.n1.n1.byte
  have hb5 := hs.n1.n1.n1.n1.n1.byte
  have z1 := hb.1
  have z2 := hb.2
  have f0 : cm .eql (nx c).1 195 = false := cm_no (by omega)
  have f1 : cm .geq (nx c).1 80 = true := cmR_ge (by omega)
  have f2 : cm .lss (nx c).1 88 = false := cmR_lo' (by omega)
  have f3 : cm .geq (nx c).1 88 = true := cmR_ge (by omega)
  have f4 : cm .lss (nx c).1 96 = false := cmR_lo' (by omega)
  have f5 : cm .eql (nx c).1 65 = false := cm_no (by omega)
  have f6 : cm .eql (nx c).1 233 = false := cm_no (by omega)
  have f7 : cm .eql (nx c).1 15 = false := cm_no (by omega)
  have f8 : cm .eql (nx c).1 196 = false := cm_no (by omega)
  have f9 : cm .eql (nx c).1 102 = false := cm_no (by omega)
  have f10 : cm .eql (nx c).1 243 = true := cm_yes (by omega)
  have f11 := midE hb1 hb5
  have f12 := lastE hb1 hb5
  refine Ctr.enter Try.func30 Try.ntmps30 rfl rfl (fun w _ => ?_)
  repeat (first | refine Af ?_ | refine Ac ?_ | refine Aa ?_ | refine Ae ?_ | refine Ad ?_ | refine Ag ?_ | refine Ah ?_ | refine Ao ?_ | refine Ab 0 ?_ | refine As ?_ | refine Aq (fun _ => ?_) | refine Am ?_ | refine Aj ?_ | refine Be ?_ | refine Ax ?_ | refine Aw ?_ | refine Ai ?_ | refine An ?_ | refine Av ?_ | refine Bb ?_ | refine L.call1 1 (byteR_S b s c h16 hs) (by exact rfl) (by exact rfl) (by exact rfl) (fun _ _ => trivial) (by simp only [hset]; rfl) ?_ | refine L.call1 1 (byteR_S b s (nx c).2 h16 hs.n1) (by exact rfl) (by exact rfl) (by exact rfl) (fun _ _ => trivial) (by simp only [hset]; rfl) ?_ | refine L.call1 1 (byteR_S b s (nx (nx c).2).2 h16 hs.n1.n1) (by exact rfl) (by exact rfl) (by exact rfl) (fun _ _ => trivial) (by simp only [hset]; rfl) ?_ | refine L.call1 1 (byteR_S b s (nx (nx (nx c).2).2).2 h16 hs.n1.n1.n1) (by exact rfl) (by exact rfl) (by exact rfl) (fun _ _ => trivial) (by simp only [hset]; rfl) ?_ | refine L.call1 1 (byteR_S b s (nx (nx (nx (nx c).2).2).2).2 h16 hs.n1.n1.n1.n1) (by exact rfl) (by exact rfl) (by exact rfl) (fun _ _ => trivial) (by simp only [hset]; rfl) ?_ | refine L.call1 1 (byteR_S b s (nx (nx (nx (nx (nx c).2).2).2).2).2 h16 hs.n1.n1.n1.n1.n1) (by exact rfl) (by exact rfl) (by exact rfl) (fun _ _ => trivial) (by simp only [hset]; rfl) ?_)
  (refine D.ret (vs := [_]) (RV.cellA 0 rfl rfl rfl rfl rfl RV.nil) ?_; intro w' hw; exact Post.mk (is := [1]) hw (by decide) rfl ⟨rfl, rfl⟩)
theorem anyR_wlo (b : Nat) (s : ByteArray) (c : Cur) (h16 : s.size ≤ 1000000) (hs : Suf s c) (h : (nx c).1 ≠ 195 ∧ (nx c).1 ≠ 65 ∧ (nx c).1 ≠ 233 ∧ (nx c).1 ≠ 15 ∧ (nx c).1 ≠ 196 ∧ (nx c).1 ≠ 102 ∧ (nx c).1 ≠ 243) (h2 : (nx c).1 < 80) : Ctr Try.prog 30 [.pointer (some ⟨b, 0, none⟩)] [(b, cR s c)] tt
    (is ((wideR (nx c).1 (nx c).2).1.V) [(b, cR s ((wideR (nx c).1 (nx c).2).2))]) := by
  have hb := hs.byte
  have hb1 := hs.n1.byte
  have hb2 := hs.n1.n1.byte
  have hb4 := hs.n1.n1.n1.n1.byte
  have hb5 := hs.n1.n1.n1.n1.n1.byte
  have z1 := hb.1
  have z2 := hb.2
  have f0 : cm .eql (nx c).1 195 = false := cm_no (by omega)
  have f1 : cm .eql (nx c).1 65 = false := cm_no (by omega)
  have f2 : cm .eql (nx c).1 233 = false := cm_no (by omega)
  have f3 : cm .eql (nx c).1 15 = false := cm_no (by omega)
  have f4 : cm .eql (nx c).1 196 = false := cm_no (by omega)
  have f5 : cm .eql (nx c).1 102 = false := cm_no (by omega)
  have f6 : cm .eql (nx c).1 243 = false := cm_no (by omega)
  have f7 : cm .geq (nx c).1 80 = false := cmR_ge' (by omega)
  have f8 : cm .geq (nx c).1 88 = false := cmR_ge' (by omega)
  refine Ctr.enter Try.func30 Try.ntmps30 rfl rfl (fun w _ => ?_)
  repeat (first | refine Af ?_ | refine Ac ?_ | refine Aa ?_ | refine Ae ?_ | refine Ad ?_ | refine Ag ?_ | refine Ah ?_ | refine Ab 0 ?_ | refine Aq (fun _ => ?_) | refine Aj ?_ | refine Ax ?_ | refine Aw ?_ | refine Bf ?_ | refine Ai ?_ | refine Ar ?_ | refine An ?_ | refine Ap ?_ | refine L.call1 1 (byteR_S b s c h16 hs) (by exact rfl) (by exact rfl) (by exact rfl) (fun _ _ => trivial) (by simp only [hset]; rfl) ?_ | refine L.call1 1 (byteR_S b s (nx c).2 h16 hs.n1) (by exact rfl) (by exact rfl) (by exact rfl) (fun _ _ => trivial) (by simp only [hset]; rfl) ?_ | refine L.call1 1 (byteR_S b s (nx (nx c).2).2 h16 hs.n1.n1) (by exact rfl) (by exact rfl) (by exact rfl) (fun _ _ => trivial) (by simp only [hset]; rfl) ?_ | refine L.call1 1 (byteR_S b s (nx (nx (nx c).2).2).2 h16 hs.n1.n1.n1) (by exact rfl) (by exact rfl) (by exact rfl) (fun _ _ => trivial) (by simp only [hset]; rfl) ?_ | refine L.call1 1 (byteR_S b s (nx (nx (nx (nx c).2).2).2).2 h16 hs.n1.n1.n1.n1) (by exact rfl) (by exact rfl) (by exact rfl) (fun _ _ => trivial) (by simp only [hset]; rfl) ?_ | refine L.call1 1 (byteR_S b s (nx (nx (nx (nx (nx c).2).2).2).2).2 h16 hs.n1.n1.n1.n1.n1) (by exact rfl) (by exact rfl) (by exact rfl) (fun _ _ => trivial) (by simp only [hset]; rfl) ?_ | refine L.call1 1 (wideR_S (nx c).1 hb b s (nx c).2 h16 hs.n1) (by exact rfl) (by exact rfl) (by exact rfl) (fun _ _ => trivial) (by simp only [hset]; rfl) ?_)
  (refine D.ret (vs := [_]) (RV.cellA 0 rfl rfl rfl rfl rfl RV.nil) ?_; intro w' hw; exact Post.mk (is := [1]) hw (by decide) rfl ⟨rfl, rfl⟩)
theorem anyR_whi (b : Nat) (s : ByteArray) (c : Cur) (h16 : s.size ≤ 1000000) (hs : Suf s c) (h : (nx c).1 ≠ 195 ∧ (nx c).1 ≠ 65 ∧ (nx c).1 ≠ 233 ∧ (nx c).1 ≠ 15 ∧ (nx c).1 ≠ 196 ∧ (nx c).1 ≠ 102 ∧ (nx c).1 ≠ 243) (h2 : 96 ≤ (nx c).1) : Ctr Try.prog 30 [.pointer (some ⟨b, 0, none⟩)] [(b, cR s c)] tt
    (is ((wideR (nx c).1 (nx c).2).1.V) [(b, cR s ((wideR (nx c).1 (nx c).2).2))]) := by
  have hb := hs.byte
  have hb1 := hs.n1.byte
  have hb2 := hs.n1.n1.byte
  have hb4 := hs.n1.n1.n1.n1.byte
  have hb5 := hs.n1.n1.n1.n1.n1.byte
  have z1 := hb.1
  have z2 := hb.2
  have f0 : cm .eql (nx c).1 195 = false := cm_no (by omega)
  have f1 : cm .eql (nx c).1 65 = false := cm_no (by omega)
  have f2 : cm .eql (nx c).1 233 = false := cm_no (by omega)
  have f3 : cm .eql (nx c).1 15 = false := cm_no (by omega)
  have f4 : cm .eql (nx c).1 196 = false := cm_no (by omega)
  have f5 : cm .eql (nx c).1 102 = false := cm_no (by omega)
  have f6 : cm .eql (nx c).1 243 = false := cm_no (by omega)
  have f7 : cm .geq (nx c).1 80 = true := cmR_ge (by omega)
  have f8 : cm .lss (nx c).1 88 = false := cmR_lo' (by omega)
  have f9 : cm .geq (nx c).1 88 = true := cmR_ge (by omega)
  have f10 : cm .lss (nx c).1 96 = false := cmR_lo' (by omega)
  refine Ctr.enter Try.func30 Try.ntmps30 rfl rfl (fun w _ => ?_)
  repeat (first | refine Af ?_ | refine Ac ?_ | refine Aa ?_ | refine Ae ?_ | refine Ad ?_ | refine Ag ?_ | refine Ah ?_ | refine Ab 0 ?_ | refine Aq (fun _ => ?_) | refine Aj ?_ | refine Be ?_ | refine Ax ?_ | refine Aw ?_ | refine Ai ?_ | refine Ar ?_ | refine An ?_ | refine Ap ?_ | refine L.call1 1 (byteR_S b s c h16 hs) (by exact rfl) (by exact rfl) (by exact rfl) (fun _ _ => trivial) (by simp only [hset]; rfl) ?_ | refine L.call1 1 (byteR_S b s (nx c).2 h16 hs.n1) (by exact rfl) (by exact rfl) (by exact rfl) (fun _ _ => trivial) (by simp only [hset]; rfl) ?_ | refine L.call1 1 (byteR_S b s (nx (nx c).2).2 h16 hs.n1.n1) (by exact rfl) (by exact rfl) (by exact rfl) (fun _ _ => trivial) (by simp only [hset]; rfl) ?_ | refine L.call1 1 (byteR_S b s (nx (nx (nx c).2).2).2 h16 hs.n1.n1.n1) (by exact rfl) (by exact rfl) (by exact rfl) (fun _ _ => trivial) (by simp only [hset]; rfl) ?_ | refine L.call1 1 (byteR_S b s (nx (nx (nx (nx c).2).2).2).2 h16 hs.n1.n1.n1.n1) (by exact rfl) (by exact rfl) (by exact rfl) (fun _ _ => trivial) (by simp only [hset]; rfl) ?_ | refine L.call1 1 (byteR_S b s (nx (nx (nx (nx (nx c).2).2).2).2).2 h16 hs.n1.n1.n1.n1.n1) (by exact rfl) (by exact rfl) (by exact rfl) (fun _ _ => trivial) (by simp only [hset]; rfl) ?_ | refine L.call1 1 (wideR_S (nx c).1 hb b s (nx c).2 h16 hs.n1) (by exact rfl) (by exact rfl) (by exact rfl) (fun _ _ => trivial) (by simp only [hset]; rfl) ?_)
  (refine D.ret (vs := [_]) (RV.cellA 0 rfl rfl rfl rfl rfl RV.nil) ?_; intro w' hw; exact Post.mk (is := [1]) hw (by decide) rfl ⟨rfl, rfl⟩)
theorem anyR_S (b : Nat) (s : ByteArray) (c : Cur) (h16 : s.size ≤ 1000000) (hs : Suf s c) : Ctr Try.prog 30 [.pointer (some ⟨b, 0, none⟩)] [(b, cR s c)] tt
    (is (anyR c.1 c.2).1.V [(b, cR s (anyR c.1 c.2).2)]) := by
  rw [anyR_eq c.1 c.2]
  show Ctr Try.prog 30 [.pointer (some ⟨b, 0, none⟩)] [(b, cR s c)] tt (is (anyRB (nx c).1 (nx c).2).1.V [(b, cR s (anyRB (nx c).1 (nx c).2).2)])
  have hb := hs.byte
  have z1 := hb.1
  have z2 := hb.2
  unfold anyRB
  by_cases h195 : (nx c).1 = 195
  · rw [if_pos h195]; exact anyR_ret b s c h16 hs h195
  rw [if_neg h195]
  by_cases h10 : (nx c).1 / 8 = 10
  · rw [if_pos h10]; exact anyR_push b s c h16 hs h10
  rw [if_neg h10]
  by_cases h11 : (nx c).1 / 8 = 11
  · rw [if_pos h11]; exact anyR_pop b s c h16 hs h11
  rw [if_neg h11]
  by_cases h65 : (nx c).1 = 65
  · rw [if_pos h65]
    by_cases hx : (nx (nx c).2).1 < 88
    · rw [if_pos hx]; exact anyR_up28 b s c h16 hs h65 hx
    · rw [if_neg hx]; exact anyR_up29 b s c h16 hs h65 (by omega)
  rw [if_neg h65]
  by_cases h233 : (nx c).1 = 233
  · rw [if_pos h233]; exact anyR_jmp b s c h16 hs h233
  rw [if_neg h233]
  by_cases h15 : (nx c).1 = 15
  · rw [if_pos h15]
    by_cases hx : (nx (nx c).2).1 = 133
    · rw [if_pos hx]; exact anyR_jnz b s c h16 hs h15 hx
    · rw [if_neg hx]; exact anyR_jc b s c h16 hs h15 hx
  rw [if_neg h15]
  by_cases h196 : (nx c).1 = 196
  · rw [if_pos h196]; exact anyR_mulx b s c h16 hs h196
  rw [if_neg h196]
  by_cases h102 : (nx c).1 = 102
  · rw [if_pos h102]; exact anyR_chain20 b s c h16 hs h102
  rw [if_neg h102]
  by_cases h243 : (nx c).1 = 243
  · rw [if_pos h243]; exact anyR_chain21 b s c h16 hs h243
  rw [if_neg h243]
  rcases Int.lt_or_le (nx c).1 80 with hl | hl
  · exact anyR_wlo b s c h16 hs ⟨h195, h65, h233, h15, h196, h102, h243⟩ hl
  · exact anyR_whi b s c h16 hs ⟨h195, h65, h233, h15, h196, h102, h243⟩ (by omega)
end Go.Proofs.Ytbcaelhchmoigaa
