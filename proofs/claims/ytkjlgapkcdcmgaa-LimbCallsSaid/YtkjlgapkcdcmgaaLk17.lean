/- keysmithkit: LightProg, Same of truths. -/
import Derived.Test.YtkjlgapkcdcmgaaLk16
import Derived.Test.YtkjlgapkcdcmgaaSepGZ
set_option linter.unusedVariables false
set_option linter.unusedSimpArgs false
namespace Go.Proofs.Ytkjlgapkcdcmgaa
open Go Go.RowKit SL
attribute [local irreducible] SL.L SL.C SL.D SL.N SL.H SL.QL SL.QW SL.QP
theorem wrap_big {n : Int} (h : -4611686018427387904 ≤ n ∧ n ≤ 4611686018427387904) : IntKind.i64.wrap n = n := by
  simp only [IntKind.wrap, IntKind.bits, IntKind.signed]
  simp
  split <;> omega
def lstep (n : Int) (b : Bf) : Int := if cm .gtr b.size 0 && cm .leq b.size 65536 then n + b.size else n
def lsum (bs : List Bf) : Int := bs.foldl lstep 0
theorem lsum_take {bs : List Bf} {i : Nat} {b : Bf} (h : bs[i]? = some b) : lsum (bs.take (i + 1)) = lstep (lsum (bs.take i)) b := by
  unfold lsum; rw [List.take_add_one, h, List.foldl_append]; rfl
theorem lsum_le (bs : List Bf) : ∀ i, i ≤ bs.length → 0 ≤ lsum (bs.take i) ∧ lsum (bs.take i) ≤ 65536 * i
  | 0, _ => by simp [lsum]
  | i + 1, h => by
    obtain ⟨h1, h2⟩ := lsum_le bs i (by omega)
    obtain ⟨b, hb⟩ : ∃ b, bs[i]? = some b := ⟨_, List.getElem?_eq_getElem (by omega)⟩
    rw [lsum_take hb]
    unfold lstep
    split
    · rename_i hc
      simp [cm] at hc
      omega
    · omega
def lightM (regs : Int) (bs : List Bf) (no : Nat) (most : Int) : Bool := ((cm .leq regs 100 && cm .leq bs.length 40) && cm .leq no most) && cm .leq (lsum (bs.take 41)) 600
theorem light_ok {regs : Int} {bs : List Bf} {no : Nat} {most : Int} (h : lightM regs bs no most = true) : regs ≤ 100 ∧ bs.length ≤ 40 ∧ (no : Int) ≤ most ∧ lsum bs ≤ 600 := by
  unfold lightM at h
  simp only [Bool.and_eq_true] at h
  obtain ⟨⟨⟨h1, h2⟩, h3⟩, h4⟩ := h
  simp [cm] at h1 h2 h3 h4
  rw [List.take_of_length_le (by omega)] at h4
  exact ⟨h1, by omega, h3, h4⟩
set_option maxHeartbeats 4000000 in
theorem light_S (regs : Int) (vb vo : Value) (bs : List Bf) (no : Nat) (most : Int) (so : SlV vo no) (hbl : bs.length ≤ maxLen) (hol : no ≤ maxLen) : Ctr Try.prog 15 [progV regs vb vo, .int .i64 most] []
    (fun w => Rd w [] vb bs.length (bs.flatMap encB)) (is (.bool (lightM regs bs no most)) []) := by
  refine Ctr.enter Try.func15 Try.ntmps15 rfl rfl (fun w hr => ?_)
  have s1 := hr.1
  unfold progV
  repeat' (first | refine C.seq ?_ | refine C.region ?_ | refine L.nil ?_ | refine D.seq ?_ | refine L.assign (k := ?_) | refine L.box (c := fun _ => ?_) | refine C.block ?_)
  rename_i pb
  refine C.loop (α := Nat) (fun i => i ≤ bs.length ∧ i ≤ 41) (fun i => [(1, .int .i64 most), (2, .pointer (some ⟨pb, 0, none⟩)), (5, .int .i64 (lsum (bs.take i))), (6, .int .i64 i)]) (fun _ => [(pb, ob [.int .i64 regs, vb, vo] 25)]) (fun i => bs.length - i) 0
    (fun a w hs => hs.lessE rfl (lk_cons rfl (lk_cons rfl (lk_cons rfl (lk_cons rfl (fun _ _ h => lk_nil h)))))) ⟨Nat.zero_le _, by omega⟩ ?_
  rintro i ⟨hi, hi41⟩
  have hle := lsum_le bs i hi
  have fin : (i = bs.length ∨ i = 41) → lsum (bs.take i) = lsum (bs.take 41) := fun h => by
    rcases h with rfl | rfl
    · rw [List.take_of_length_le (Nat.le_refl _), List.take_of_length_le (by omega)]
    · rfl
  rcases Nat.lt_or_ge i bs.length with hlt | hge
  · have c1 : cm .lss (i : Int) bs.length = true := cm_lo (by omega)
    rcases Nat.lt_or_ge i 41 with h41 | h41
    · have c2 : cm .leq (i : Int) 40 = true := cm_le (by omega)
      obtain ⟨b, hb⟩ : ∃ b, bs[i]? = some b := ⟨_, List.getElem?_eq_getElem hlt⟩
      obtain ⟨k0, k1, k2⟩ := b_at hb
      have o1 := hr.2 (by omega)
      have c3 : ar .add .i64 (i : Int) 1 = ((i + 1 : Nat) : Int) := wrap_nat (by omega)
      have htk := lsum_take hb
      cases hc : (cm .gtr b.size 0 && cm .leq b.size 65536) with
      | true =>
        have hb2 : 0 < b.size ∧ b.size ≤ 65536 := by simpa [cm] using hc
        have g1 : cm .gtr b.size 0 = true := cm_gt hb2.1
        have g2 : cm .leq b.size 65536 = true := cm_le hb2.2
        have c4 : ar .add .i64 (lsum (bs.take i)) b.size = lsum (bs.take (i + 1)) := by
          rw [htk]; unfold lstep; rw [hc]; exact wrap_big (by omega)
        repeat' (first | refine C.seq ?_ | refine C.region ?_ | refine L.nil ?_ | refine D.seq ?_ | refine L.move (k := ?_) | refine L.assign (k := ?_) | refine L.cm (c := ?_) | refine L.ar (c := ?_) | refine L.fieldAddr (c := ?_) | refine L.load1 0 (c := ?_) | refine C.yes (h1 := ?_) | refine L.pickT (k := ?_) | refine L.want (k := ?_) | refine C.block ?_ | refine D.blkNormal ?_ | refine C.skip ?_ | refine L.lenR s1 (c := ?_) | refine L.indexR s1 hlt (c := ?_) | refine L.loadF o1 k0 (c := ?_))
        exact D.then_ fun a1 w1 hs => ⟨i + 1, ⟨by omega, by omega⟩, by omega, hs.lessE rfl (lk_cons rfl (lk_cons rfl (lk_cons rfl (lk_cons rfl (fun _ _ h => lk_nil h)))))⟩
      | false =>
        have e1 : lsum (bs.take (i + 1)) = lsum (bs.take i) := by rw [htk]; unfold lstep; rw [hc]; rfl
        cases g1 : cm .gtr b.size 0 with
        | true =>
          rw [g1, Bool.true_and] at hc
          repeat' (first | refine C.seq ?_ | refine C.region ?_ | refine L.nil ?_ | refine D.seq ?_ | refine L.move (k := ?_) | refine L.assign (k := ?_) | refine L.cm (c := ?_) | refine L.ar (c := ?_) | refine L.fieldAddr (c := ?_) | refine L.load1 0 (c := ?_) | refine C.yes (h1 := ?_) | refine C.no (h1 := ?_) | refine L.pickT (k := ?_) | refine L.want (k := ?_) | refine C.block ?_ | refine D.blkNormal ?_ | refine C.skip ?_ | refine L.lenR s1 (c := ?_) | refine L.indexR s1 hlt (c := ?_) | refine L.loadF o1 k0 (c := ?_))
          refine D.then_ fun a1 w1 hs => ⟨i + 1, ⟨by omega, by omega⟩, by omega, hs.lessE rfl ?_⟩
          rw [e1]
          exact (lk_cons rfl (lk_cons rfl (lk_cons rfl (lk_cons rfl (fun _ _ h => lk_nil h)))))
        | false =>
          repeat' (first | refine C.seq ?_ | refine C.region ?_ | refine L.nil ?_ | refine D.seq ?_ | refine L.move (k := ?_) | refine L.assign (k := ?_) | refine L.cm (c := ?_) | refine L.ar (c := ?_) | refine L.fieldAddr (c := ?_) | refine L.load1 0 (c := ?_) | refine C.yes (h1 := ?_) | refine C.no (h1 := ?_) | refine L.pickT (k := ?_) | refine L.pickF (k := ?_) | refine L.want (k := ?_) | refine L.pass (k := ?_) | refine C.block ?_ | refine D.blkNormal ?_ | refine C.skip ?_ | refine L.lenR s1 (c := ?_) | refine L.indexR s1 hlt (c := ?_) | refine L.loadF o1 k0 (c := ?_))
          refine D.then_ fun a1 w1 hs => ⟨i + 1, ⟨by omega, by omega⟩, by omega, hs.lessE rfl ?_⟩
          rw [e1]
          exact (lk_cons rfl (lk_cons rfl (lk_cons rfl (lk_cons rfl (fun _ _ h => lk_nil h)))))
    · have c2 : cm .leq (i : Int) 40 = false := cm_le' (by omega)
      have hf := fin (.inr (by omega))
      repeat' (first | refine C.seq ?_ | refine C.region ?_ | refine L.nil ?_ | refine D.seq ?_ | refine L.move (k := ?_) | refine L.assign (k := ?_) | refine L.cm (c := ?_) | refine L.fieldAddr (c := ?_) | refine L.load1 0 (c := ?_) | refine C.no (h1 := ?_) | refine L.pickT (k := ?_) | refine L.pickF (k := ?_) | refine L.want (k := ?_) | refine L.pass (k := ?_) | refine C.ret ?_ | refine C.exit ?_ | refine D.thenExit ?_ | refine D.blkExit ?_ | refine L.lenR s1 (c := ?_) | refine L.lenR so (c := ?_) | exact D.endsG | (refine L.andB 2 (b2 := ?_) (h1 := fun hb => ?_) (h2 := fun hb => ?_) (k := ?_); rotate_left) | (refine L.andB 4 (b2 := ?_) (h1 := fun hb => ?_) (h2 := fun hb => ?_) (k := ?_); rotate_left) | (refine L.andB 5 (b2 := ?_) (h1 := fun hb => ?_) (h2 := fun hb => ?_) (k := ?_); rotate_left))
      rw [hf]
      refine D.ret (vs := [.bool (lightM regs bs no most)]) (RV.tmp rfl RV.nil) ?_
      intro w' hw
      exact Post.mk (is := []) hw List.nodup_nil rfl ⟨rfl, rfl⟩
  · have c1 : cm .lss (i : Int) bs.length = false := cm_lo' (by omega)
    have hf := fin (.inl (by omega))
    repeat' (first | refine C.seq ?_ | refine C.region ?_ | refine L.nil ?_ | refine D.seq ?_ | refine L.move (k := ?_) | refine L.assign (k := ?_) | refine L.cm (c := ?_) | refine L.fieldAddr (c := ?_) | refine L.load1 0 (c := ?_) | refine C.no (h1 := ?_) | refine L.pickT (k := ?_) | refine L.pickF (k := ?_) | refine L.want (k := ?_) | refine L.pass (k := ?_) | refine C.ret ?_ | refine C.exit ?_ | refine D.thenExit ?_ | refine D.blkExit ?_ | refine L.lenR s1 (c := ?_) | refine L.lenR so (c := ?_) | exact D.endsG | (refine L.andB 2 (b2 := ?_) (h1 := fun hb => ?_) (h2 := fun hb => ?_) (k := ?_); rotate_left) | (refine L.andB 4 (b2 := ?_) (h1 := fun hb => ?_) (h2 := fun hb => ?_) (k := ?_); rotate_left) | (refine L.andB 5 (b2 := ?_) (h1 := fun hb => ?_) (h2 := fun hb => ?_) (k := ?_); rotate_left))
    rw [hf]
    refine D.ret (vs := [.bool (lightM regs bs no most)]) (RV.tmp rfl RV.nil) ?_
    intro w' hw
    exact Post.mk (is := []) hw List.nodup_nil rfl ⟨rfl, rfl⟩
end Go.Proofs.Ytkjlgapkcdcmgaa
