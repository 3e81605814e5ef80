/- The document's answer for chapter 2: digit, Text, Read. Conditions: at most 300000 limbs, 50000 bytes. -/
import Derived.Test.YtpemoeincepilaaDoorNtRc
import Derived.Test.YtpemoeincepilaaDoorNtTx
import Derived.Test.YtpemoeincepilaaDoorSepB2
set_option linter.unusedVariables false
set_option linter.unusedSimpArgs false
namespace Go.Proofs.YtpemoeincepilaaDoor.Nt
open Go Go.RowKit SL
attribute [local irreducible] SL.L SL.C SL.D SL.N SL.H SL.QL SL.QW SL.QP

theorem or_nib {l : List Nat} {k d : Nat} (h : okL l) (hi : k / 16 < l.length) (hd : d < 16) (h0 : lv l % 16 ^ (k + 1) = 0) :
    okL (l.set (k / 16) (lmb l (k / 16) ||| d * 2 ^ (4 * (k % 16)))) ∧ lv (l.set (k / 16) (lmb l (k / 16) ||| d * 2 ^ (4 * (k % 16)))) = lv l + d * 16 ^ k := by
  have hp : ∀ n : Nat, (16 : Nat) ^ n = 2 ^ (4 * n) := fun n => by rw [Nat.pow_mul]
  have hb : d * 2 ^ (4 * (k % 16)) < 18446744073709551616 := by
    have h1 : 2 ^ (4 * (k % 16)) ≤ 2 ^ 60 := Nat.pow_le_pow_right (by omega) (by omega)
    have h2 : d * 2 ^ (4 * (k % 16)) ≤ 15 * 2 ^ 60 := Nat.mul_le_mul (by omega) h1
    exact Nat.lt_of_le_of_lt h2 (by decide)
  have ho : lmb l (k / 16) ||| d * 2 ^ (4 * (k % 16)) < 18446744073709551616 := Nat.or_lt_two_pow (n := 64) (lmb_lt h _) hb
  have hok := okL_set h (n := k / 16) ho
  refine ⟨hok, ?_⟩
  have hdk : 2 ^ (4 * k) * d < 2 ^ (4 * k + 4) := by
    rw [Nat.pow_add]
    exact Nat.mul_lt_mul_of_pos_left (show d < 2 ^ 4 from hd) (Nat.two_pow_pos _)
  have e : lv l + d * 16 ^ k = lv l ||| 2 ^ (4 * k) * d := by
    rw [hp, show 4 * (k + 1) = 4 * k + 4 by omega] at h0
    have h1 : lv l = 2 ^ (4 * k + 4) * (lv l / 2 ^ (4 * k + 4)) := by have := Nat.div_add_mod (lv l) (2 ^ (4 * k + 4)); omega
    rw [hp, Nat.mul_comm d, h1]
    exact Nat.two_pow_add_eq_or_of_lt hdk _
  rw [e]
  apply Nat.eq_of_testBit_eq
  intro j
  rw [lv_bit hok, Nat.testBit_or, lv_bit h, lmb_set hi, Nat.testBit_two_pow_mul]
  by_cases hk : j / 64 = k / 16
  · rw [if_pos hk, Nat.testBit_or, hk, Nat.mul_comm d, Nat.testBit_two_pow_mul]
    congr 1
    rw [show j % 64 - 4 * (k % 16) = j - 4 * k by omega]
    congr 1
    exact decide_eq_decide.2 (by omega)
  · rw [if_neg hk]
    by_cases hj : 4 * k ≤ j
    · have hz : d.testBit (j - 4 * k) = false := Nat.testBit_lt_two_pow (Nat.lt_of_lt_of_le (show d < 2 ^ 4 from hd) (Nat.pow_le_pow_right (by omega) (by omega)))
      rw [hz]; simp
    · rw [decide_eq_false (show ¬ j ≥ 4 * k from hj)]; simp
def dvI (c : Nat) : Int := if dv c < 16 then (dv c : Int) else -1
theorem dvI_hi {c : Nat} (h : ¬ dv c < 16) : dvI c = -1 := if_neg h
theorem dvI_lo {c : Nat} (h : dv c < 16) : dvI c = (dv c : Int) := if_pos h
theorem u8_sub {a b : Nat} (h : b ≤ a) (h2 : a < 256) : ar .sub .u8 (a : Int) (b : Int) = ((a - b : Nat) : Int) := by
  show IntKind.u8.wrap _ = _
  simp only [IntKind.wrap, IntKind.bits, IntKind.signed]
  simp
  omega
theorem i64_same {a : Nat} (h : a < 256) : IntKind.i64.wrap ((a : Nat) : Int) = (a : Int) := by rw [IntKind.wrap_i64]; omega
theorem digit_S (c : UInt8) : Ctr Tryd.prog 59 [.int .u8 (c.toNat : Int)] [] tt (is (.int .i64 (dvI c.toNat)) []) := by
  have hc := c.toNat_lt
  generalize c.toNat = n at *
  refine Ctr.enter Tryd.func59 Tryd.ntmps59 rfl rfl (fun w _ => ?_)
  rcases (by omega : (48 ≤ n ∧ n ≤ 57) ∨ (97 ≤ n ∧ n ≤ 102) ∨ (65 ≤ n ∧ n ≤ 70) ∨ n < 48 ∨ (58 ≤ n ∧ n ≤ 64) ∨ (71 ≤ n ∧ n ≤ 96) ∨ 103 ≤ n) with h | h | h | h | h | h | h
  · have hd : dvI n = ((n - 48 : Nat) : Int) := by
      unfold dvI dv; repeat' split
      all_goals omega
    rw [hd]
    have c48 : cm .geq (n : Int) 48 = true := cm_ge (by omega)
    have c57 : cm .leq (n : Int) 57 = true := cm_le (by omega)
    have d1 : ar .sub .u8 (n : Int) 48 = ((n - 48 : Nat) : Int) := u8_sub (b := 48) (by omega) (by omega)
    have d2 : IntKind.i64.wrap ((n - 48 : Nat) : Int) = ((n - 48 : Nat) : Int) := i64_same (by omega)
    repeat (first | refine L.convI (hz := d2) (c := ?_) | refine C.seq ?_ | refine C.region ?_ | refine L.nil ?_ | refine D.seq ?_ | refine L.move (k := ?_) | refine L.assign (k := ?_) | refine L.cm (c := ?_) | refine L.ar (c := ?_) | refine C.yes (h1 := ?_) | refine L.pickT (k := ?_) | refine L.want (k := ?_) | refine C.block ?_ | refine C.ret ?_ | refine D.thenRet ?_ | refine D.blkRet ?_)
    (refine D.ret (vs := [_]) (RV.tmp rfl RV.nil) ?_; intro w' hw; exact Post.mk (is := []) hw List.nodup_nil rfl ⟨rfl, rfl⟩)
  · have hd : dvI n = ((n - 97 + 10 : Nat) : Int) := by
      unfold dvI dv; repeat' split
      all_goals omega
    rw [hd]
    have c48 : cm .geq (n : Int) 48 = true := cm_ge (by omega)
    have c57 : cm .leq (n : Int) 57 = false := cm_le' (by omega)
    have c97 : cm .geq (n : Int) 97 = true := cm_ge (by omega)
    have c102 : cm .leq (n : Int) 102 = true := cm_le (by omega)
    have d1 : ar .sub .u8 (n : Int) 97 = ((n - 97 : Nat) : Int) := u8_sub (b := 97) (by omega) (by omega)
    have d2 : IntKind.i64.wrap ((n - 97 : Nat) : Int) = ((n - 97 : Nat) : Int) := i64_same (by omega)
    have d3 : ar .add .i64 ((n - 97 : Nat) : Int) 10 = ((n - 97 + 10 : Nat) : Int) := i64_add (b := 10) (by omega)
    repeat (first | refine L.convI (hz := d2) (c := ?_) | refine C.seq ?_ | refine C.region ?_ | refine L.nil ?_ | refine D.seq ?_ | refine L.move (k := ?_) | refine L.assign (k := ?_) | refine L.cm (c := ?_) | refine L.ar (c := ?_) | refine C.yes (h1 := ?_) | refine C.no (h1 := ?_) | refine L.pickT (k := ?_) | refine L.want (k := ?_) | refine C.block ?_ | refine C.ret ?_ | refine D.thenRet ?_ | refine D.blkRet ?_)
    (refine D.ret (vs := [_]) (RV.tmp rfl RV.nil) ?_; intro w' hw; exact Post.mk (is := []) hw List.nodup_nil rfl ⟨rfl, rfl⟩)
  · have hd : dvI n = ((n - 65 + 10 : Nat) : Int) := by
      unfold dvI dv; repeat' split
      all_goals omega
    rw [hd]
    have c48 : cm .geq (n : Int) 48 = true := cm_ge (by omega)
    have c57 : cm .leq (n : Int) 57 = false := cm_le' (by omega)
    have c97 : cm .geq (n : Int) 97 = false := cm_ge' (by omega)
    have c65 : cm .geq (n : Int) 65 = true := cm_ge (by omega)
    have c70 : cm .leq (n : Int) 70 = true := cm_le (by omega)
    have d1 : ar .sub .u8 (n : Int) 65 = ((n - 65 : Nat) : Int) := u8_sub (b := 65) (by omega) (by omega)
    have d2 : IntKind.i64.wrap ((n - 65 : Nat) : Int) = ((n - 65 : Nat) : Int) := i64_same (by omega)
    have d3 : ar .add .i64 ((n - 65 : Nat) : Int) 10 = ((n - 65 + 10 : Nat) : Int) := i64_add (b := 10) (by omega)
    repeat (first | refine L.convI (hz := d2) (c := ?_) | refine C.seq ?_ | refine C.region ?_ | refine L.nil ?_ | refine D.seq ?_ | refine L.move (k := ?_) | refine L.assign (k := ?_) | refine L.cm (c := ?_) | refine L.ar (c := ?_) | refine C.yes (h1 := ?_) | refine C.no (h1 := ?_) | refine L.pickT (k := ?_) | refine L.pickF (k := ?_) | refine L.want (k := ?_) | refine L.pass (k := ?_) | refine C.block ?_ | refine C.ret ?_ | refine D.thenRet ?_ | refine D.blkRet ?_)
    (refine D.ret (vs := [_]) (RV.tmp rfl RV.nil) ?_; intro w' hw; exact Post.mk (is := []) hw List.nodup_nil rfl ⟨rfl, rfl⟩)
  · have hd : dvI n = -1 := by
      unfold dvI dv; repeat' split
      all_goals omega
    rw [hd]
    have c48 : cm .geq (n : Int) 48 = false := cm_ge' (by omega)
    have c97 : cm .geq (n : Int) 97 = false := cm_ge' (by omega)
    have c65 : cm .geq (n : Int) 65 = false := cm_ge' (by omega)
    repeat (first | refine C.seq ?_ | refine C.region ?_ | refine L.nil ?_ | refine D.seq ?_ | refine L.move (k := ?_) | refine L.assign (k := ?_) | refine L.cm (c := ?_) | refine C.no (h1 := ?_) | refine L.pickF (k := ?_) | refine L.pass (k := ?_) | refine C.block ?_ | refine D.blkNormal ?_ | refine C.ret ?_ | refine C.skip ?_)
    (refine D.ret (vs := [_]) (RV.tmp rfl RV.nil) ?_; intro w' hw; exact Post.mk (is := []) hw List.nodup_nil rfl ⟨rfl, rfl⟩)
  · have hd : dvI n = -1 := by
      unfold dvI dv; repeat' split
      all_goals omega
    rw [hd]
    have c48 : cm .geq (n : Int) 48 = true := cm_ge (by omega)
    have c57 : cm .leq (n : Int) 57 = false := cm_le' (by omega)
    have c97 : cm .geq (n : Int) 97 = false := cm_ge' (by omega)
    have c65 : cm .geq (n : Int) 65 = false := cm_ge' (by omega)
    repeat (first | refine C.seq ?_ | refine C.region ?_ | refine L.nil ?_ | refine D.seq ?_ | refine L.move (k := ?_) | refine L.assign (k := ?_) | refine L.cm (c := ?_) | refine C.no (h1 := ?_) | refine L.pickT (k := ?_) | refine L.pickF (k := ?_) | refine L.want (k := ?_) | refine L.pass (k := ?_) | refine C.block ?_ | refine D.blkNormal ?_ | refine C.ret ?_ | refine C.skip ?_)
    (refine D.ret (vs := [_]) (RV.tmp rfl RV.nil) ?_; intro w' hw; exact Post.mk (is := []) hw List.nodup_nil rfl ⟨rfl, rfl⟩)
  · have hd : dvI n = -1 := by
      unfold dvI dv; repeat' split
      all_goals omega
    rw [hd]
    have c48 : cm .geq (n : Int) 48 = true := cm_ge (by omega)
    have c57 : cm .leq (n : Int) 57 = false := cm_le' (by omega)
    have c97 : cm .geq (n : Int) 97 = false := cm_ge' (by omega)
    have c65 : cm .geq (n : Int) 65 = true := cm_ge (by omega)
    have c70 : cm .leq (n : Int) 70 = false := cm_le' (by omega)
    repeat (first | refine C.seq ?_ | refine C.region ?_ | refine L.nil ?_ | refine D.seq ?_ | refine L.move (k := ?_) | refine L.assign (k := ?_) | refine L.cm (c := ?_) | refine C.no (h1 := ?_) | refine L.pickT (k := ?_) | refine L.pickF (k := ?_) | refine L.want (k := ?_) | refine L.pass (k := ?_) | refine C.block ?_ | refine D.blkNormal ?_ | refine C.ret ?_ | refine C.skip ?_)
    (refine D.ret (vs := [_]) (RV.tmp rfl RV.nil) ?_; intro w' hw; exact Post.mk (is := []) hw List.nodup_nil rfl ⟨rfl, rfl⟩)
  · have hd : dvI n = -1 := by
      unfold dvI dv; repeat' split
      all_goals omega
    rw [hd]
    have c48 : cm .geq (n : Int) 48 = true := cm_ge (by omega)
    have c57 : cm .leq (n : Int) 57 = false := cm_le' (by omega)
    have c97 : cm .geq (n : Int) 97 = true := cm_ge (by omega)
    have c102 : cm .leq (n : Int) 102 = false := cm_le' (by omega)
    have c65 : cm .geq (n : Int) 65 = true := cm_ge (by omega)
    have c70 : cm .leq (n : Int) 70 = false := cm_le' (by omega)
    repeat (first | refine C.seq ?_ | refine C.region ?_ | refine L.nil ?_ | refine D.seq ?_ | refine L.move (k := ?_) | refine L.assign (k := ?_) | refine L.cm (c := ?_) | refine C.no (h1 := ?_) | refine L.pickT (k := ?_) | refine L.want (k := ?_) | refine C.block ?_ | refine D.blkNormal ?_ | refine C.ret ?_ | refine C.skip ?_)
    (refine D.ret (vs := [_]) (RV.tmp rfl RV.nil) ?_; intro w' hw; exact Post.mk (is := []) hw List.nodup_nil rfl ⟨rfl, rfl⟩)
theorem hex_cut {d : Nat} (h : d < 16) : (⟨#[48, 49, 50, 51, 52, 53, 54, 55, 56, 57, 97, 98, 99, 100, 101, 102]⟩ : ByteArray).extract d (d + 1) = ⟨[d8 d].toArray⟩ := by
  have key : ∀ d, d < 16 → ((⟨#[48, 49, 50, 51, 52, 53, 54, 55, 56, 57, 97, 98, 99, 100, 101, 102]⟩ : ByteArray).extract d (d + 1)).data.toList = [d8 d] := by decide +kernel
  have e := key d h
  have : ∀ x : ByteArray, x = ⟨x.data.toList.toArray⟩ := fun x => by cases x; simp
  rw [this (ByteArray.extract _ _ _), e]
theorem ba_app (a b : List UInt8) : (⟨a.toArray⟩ : ByteArray) ++ ⟨b.toArray⟩ = ⟨(a ++ b).toArray⟩ := by
  have : ∀ x y : ByteArray, x.data = y.data → x = y := fun x y h => by cases x; cases y; simp at h; rw [h]
  apply this
  simp
theorem bget2 {x : ByteArray} {i : Nat} {c : UInt8} (h : x.data.toList[i]? = some c) : x[((i : Nat) : Int).toNat]? = some c := by
  rw [Int.toNat_natCast]
  have h2 : x.data[i]? = some c := by simpa using h
  have hlt : i < x.size := (Array.getElem?_eq_some_iff.1 h2).1
  rw [getElem?_pos x i hlt]
  have h3 := (Array.getElem?_eq_some_iff.1 h2).2
  exact congrArg some h3
theorem nb_get2 {x : ByteArray} {i : Nat} {c : UInt8} (h : x.data.toList[i]? = some c) : (nb x)[i]? = some c.toNat := by unfold nb; rw [List.getElem?_map, h]; rfl
theorem nb_len2 (x : ByteArray) : (nb x).length = x.size := by unfold nb; rw [List.length_map]; rfl
theorem nb_cut2 (x : ByteArray) : nb (x.extract 1 x.size) = (nb x).drop 1 := by
  unfold nb
  rw [ByteArray.data_extract, Array.toList_extract, List.extract_eq_take_drop, ← List.map_drop]
  congr 1
  rw [List.take_of_length_le]
  rw [List.length_drop]
  exact Nat.le_refl _
set_option maxRecDepth 100000 in
set_option maxHeartbeats 8000000 in
theorem text2_S (l : List Nat) (t : List UInt8) (hl : nt l) (h : text8 (lv l) = t) (v : Value) : Ctr Tryd.prog 42 [v] [] (fun w => RdN w [] v l) (is (.string ⟨t.toArray⟩) []) := by
  subst h
  have hB := bits2_S l _ hl rfl v
  obtain ⟨ho, hll⟩ := hl
  refine Ctr.enter Tryd.func42 Tryd.ntmps42 rfl rfl (fun w hr => ?_)
  have sv := hr.1
  have hb64 : bitsN (lv l) ≤ 64 * l.length := Nat.le_trans (bitsN_can_le _) (Nat.mul_le_mul_left _ (can_le ho))
  have c1 : ar .add .i64 (bitsN (lv l) : Int) 3 = ((bitsN (lv l) + 3 : Nat) : Int) := i64_addL (b := 3) (by omega)
  have c2 : ar .quo .i64 ((bitsN (lv l) + 3 : Nat) : Int) 4 = (ndig (lv l) : Int) := i64_quo (b := 4) (by omega)
  have hnd : ndig (lv l) ≤ 100000000 := by unfold ndig; omega
  repeat (first | refine C.seq ?_ | refine C.region ?_ | refine L.nil ?_ | refine D.seq ?_ | refine L.move (k := ?_) | refine L.assign (k := ?_) | refine L.ar (c := ?_) | refine C.block ?_ | refine L.callQ hB (hpre := fun w hw => hr.at hw) (k := ?_))
  refine C.loop (α := Nat × List UInt8) (fun g => g.1 ≤ ndig (lv l) ∧ g.2.length + g.1 = ndig (lv l) ∧ g.2 ++ (digs (lv l) g.1).map d8 = (digs (lv l) (ndig (lv l))).map d8) (fun g => [(0, v), (3, .string ⟨g.2.toArray⟩), (4, .int .i64 (g.1 : Int))]) (fun _ => []) (fun g => g.1) (ndig (lv l), [])
    (fun a w hs => hs.lessE rfl (lk_cons rfl (lk_cons rfl (lk_cons rfl (fun _ _ h => lk_nil h))))) ⟨Nat.le_refl _, by simp, rfl⟩ ?_
  rintro ⟨j, bs⟩ ⟨hj, hbl, hd⟩
  simp only at hj hbl hd ⊢
  rcases Nat.eq_zero_or_pos j with rfl | hpos
  · have d1 : cm .gtr ((0 : Nat) : Int) 0 = false := rfl
    simp only [digs, List.map_nil, List.append_nil] at hd
    rcases Nat.eq_zero_or_pos (lv l) with h0 | h0
    · have hn0 : ndig (lv l) = 0 := by rw [h0]; rfl
      have hb0 : bs = [] := List.eq_nil_of_length_eq_zero (by omega)
      subst hb0
      have ht : text8 (lv l) = [48] := by rw [h0]; rfl
      rw [ht]
      have hq := seq_yes (s := ⟨([] : List UInt8).toArray⟩) rfl
      repeat (first | refine L.strEq (hz := hq) (c := ?_) | refine C.seq ?_ | refine C.region ?_ | refine L.nil ?_ | refine D.seq ?_ | refine L.move (k := ?_) | refine L.assign (k := ?_) | refine L.cm (c := ?_) | refine C.yes (h1 := ?_) | refine C.no (h1 := ?_) | refine C.ret ?_ | refine D.thenRet ?_ | refine C.exit ?_ | refine D.thenExit ?_ | refine D.blkExit ?_ | refine D.seqR (h := ?_))
      exact D.ret (vs := [_]) (RV.tmp rfl RV.nil) (fun w' hw => Post.mk (is := []) hw (by decide) rfl ⟨rfl, rfl⟩)
    · have hn1 := (ndig_le (n := lv l) (by omega)).2
      rw [text8_pos (by omega), ← hd]
      have hq := seq_no (s := ⟨bs.toArray⟩) (by show bs.length ≠ 0; omega)
      repeat (first | refine L.strEq (hz := hq) (c := ?_) | refine C.seq ?_ | refine C.region ?_ | refine L.nil ?_ | refine D.seq ?_ | refine L.move (k := ?_) | refine L.assign (k := ?_) | refine L.cm (c := ?_) | refine C.no (h1 := ?_) | refine C.ret ?_ | refine C.exit ?_ | refine D.thenExit ?_ | refine D.blkExit ?_ | refine C.skip ?_ | refine D.seqR (h := ?_))
      exact D.ret (vs := [_]) (RV.tmp rfl RV.nil) (fun w' hw => Post.mk (is := []) hw (by decide) rfl ⟨rfl, rfl⟩)
  · obtain ⟨i, rfl⟩ : ∃ i, j = i + 1 := ⟨j - 1, by omega⟩
    have hLm := limb_S l (by omega) v (i / 16)
    have hx := lmb_lt ho (i / 16)
    have d0 : cm .gtr ((i + 1 : Nat) : Int) 0 = true := cm_gt (by omega)
    have d1 : ar .sub .i64 ((i + 1 : Nat) : Int) 1 = (i : Int) := i64_subL (a := i + 1) (b := 1) (by omega) (by omega)
    have d2 : ar .quo .i64 (i : Int) 16 = ((i / 16 : Nat) : Int) := i64_quo (b := 16) (by omega)
    have d3 : ar .rem .i64 (i : Int) 16 = ((i % 16 : Nat) : Int) := i64_rem (b := 16)
    have d4 : ar .mul .i64 4 ((i % 16 : Nat) : Int) = ((4 * (i % 16) : Nat) : Int) := i64_mulL (a := 4) (by omega)
    have d8' : IntKind.u64.wrap ((4 * (i % 16) : Nat) : Int) = ((4 * (i % 16) : Nat) : Int) := u64_wrap (by omega)
    have d5 : ar .shr .u64 (lmb l (i / 16) : Int) ((4 * (i % 16) : Nat) : Int) = ((lmb l (i / 16) / 2 ^ (4 * (i % 16)) : Nat) : Int) := ar_shrN _ _ (by omega)
    have hk : arOk .shr .u64 .u64 ((4 * (i % 16) : Nat) : Int) = true := decide_eq_true (p := (0 : Int) ≤ ((4 * (i % 16) : Nat) : Int)) (by omega)
    have d6 : ar .and .u64 ((lmb l (i / 16) / 2 ^ (4 * (i % 16)) : Nat) : Int) 15 = ((lv l / 16 ^ i % 16 : Nat) : Int) := by
      rw [dig_limb ho i, Nat.shiftRight_eq_div_pow]
      exact ar_andN _ 15 (Nat.lt_of_le_of_lt (Nat.div_le_self _ _) hx) (by omega)
    have hdl : lv l / 16 ^ i % 16 < 16 := Nat.mod_lt _ (by omega)
    have hcut := hex_cut hdl
    have hstep : bs ++ [d8 (lv l / 16 ^ i % 16)] ++ (digs (lv l) i).map d8 = (digs (lv l) (ndig (lv l))).map d8 := by rw [← hd]; simp [digs]
    generalize lv l / 16 ^ i % 16 = dd at *
    have d7 : ar .add .u64 (dd : Int) 1 = ((dd + 1 : Nat) : Int) := by
      have := ar_addN dd 1
      rw [Nat.mod_eq_of_lt (by omega)] at this; exact this
    have hsz : (⟨bs.toArray⟩ : ByteArray).size + (⟨[d8 dd].toArray⟩ : ByteArray).size ≤ 1000000000 := by show bs.length + 1 ≤ _; omega
    repeat (first | refine L.convI (hz := d8') (c := ?_) | refine L.ar (op := .shr) (ho := hk) (hz := d5) (c := ?_) | refine C.seq ?_ | refine C.region ?_ | refine L.nil ?_ | refine D.seq ?_ | refine L.move (k := ?_) | refine L.assign (k := ?_) | refine L.cm (c := ?_) | refine L.ar (c := ?_) | refine C.yes (h1 := ?_) | refine C.block ?_ | refine C.skip ?_ | refine L.callQ hLm (hpre := fun w hw => hr.at hw) (k := ?_))
    refine L.sliceS (lo := dd) (hi := dd + 1) (hy := .inr ⟨_, _, rfl, rfl⟩) (hz := .inr ⟨_, _, rfl, rfl⟩) (h1 := by omega) (h2 := by show dd + 1 ≤ 16; omega) (c := ?_)
    rw [hcut]
    refine L.strAdd hsz (c := ?_)
    rw [ba_app]
    repeat (first | refine C.region ?_ | refine L.nil ?_ | refine D.seq ?_ | refine L.move (k := ?_) | refine L.assign (k := ?_) | refine L.ar (c := ?_) | refine D.blkNormal ?_)
    exact D.then_ fun a1 w1 hs => ⟨(i, bs ++ [d8 dd]), ⟨by simp only; omega, by simp only [List.length_append, List.length_singleton]; omega, hstep⟩, by simp only; omega, hs.lessE rfl (lk_cons rfl (lk_cons rfl (lk_cons rfl (fun _ _ h => lk_nil h))))⟩
set_option maxRecDepth 100000 in
set_option maxHeartbeats 16000000 in
theorem read2_S (s : ByteArray) (n : Nat) (e : Int) (hs : s.size ≤ 50000) (h : (if s.size = 0 then (0, 2) else if (∀ c ∈ nb s, dv c < 16) then (if 8192 < ndig (rdT (nb s)) then (0, 3) else (rdT (nb s), 0)) else (0, 7) : Nat × Int) = (n, e)) : Ctr Tryd.prog 34 [.string s] [] tt (natE n e) := by
  have hc0 : (can 0).length = 0 := by rw [can_zero]; rfl
  have nilE : ∀ e : Int, (natE 0 e) (shut [osV 0 none, .int .i64 e]) [] := fun e => ⟨none, by rw [can_zero]; exact osG.nil, by rw [hc0], rfl⟩
  refine Ctr.enter Tryd.func34 Tryd.ntmps34 rfl rfl (fun w _ => ?_)
  by_cases hs0 : s.size = 0
  · have hq := seq_yes hs0
    rw [if_pos hs0] at h
    obtain ⟨rfl, rfl⟩ : 0 = n ∧ 2 = e := by simpa using h
    repeat (first | refine L.strEq (hz := hq) (c := ?_) | refine C.seq ?_ | refine C.region ?_ | refine L.nil ?_ | refine D.seq ?_ | refine L.move (k := ?_) | refine L.assign (k := ?_) | refine C.yes (h1 := ?_) | refine C.ret ?_ | refine D.thenRet ?_)
    exact D.ret (vs := [osV 0 none, .int .i64 2]) (RV.tmp rfl (RV.tmp rfl RV.nil)) (fun w' hw => Post.mk (is := []) hw List.nodup_nil rfl (nilE 2))
  rw [if_neg hs0] at h
  have hq := seq_no hs0
  have hlen := nb_len2 s
  repeat (first | refine L.strEq (hz := hq) (c := ?_) | refine C.seq ?_ | refine C.region ?_ | refine L.nil ?_ | refine D.seq ?_ | refine L.move (k := ?_) | refine L.assign (k := ?_) | refine C.no (h1 := ?_) | refine C.block ?_ | refine C.skip ?_)
  refine C.loop (α := Nat) (fun i => i ≤ s.size ∧ ∀ c ∈ (nb s).take i, dv c < 16) (fun i => [(0, .string s), (4, .int .i64 (i : Int))]) (fun _ => []) (fun i => s.size - i) 0 (fun a w hs => hs.lessE rfl (lk_cons rfl (lk_cons rfl (fun _ _ h => lk_nil h)))) ⟨Nat.zero_le _, by simp⟩ ?_
  rintro i ⟨hi, hall⟩
  rcases Nat.lt_or_ge i s.size with hlt | hge
  · have c1 : cm .lss (i : Int) s.size = true := cm_lo (by omega)
    have c2 : ar .add .i64 (i : Int) 1 = ((i + 1 : Nat) : Int) := i64_add (b := 1) (by omega)
    obtain ⟨ci, hci⟩ : ∃ ci, s.data.toList[i]? = some ci := ⟨_, List.getElem?_eq_getElem (show i < s.data.toList.length from hlt)⟩
    have gx : s[((i : Nat) : Int).toNat]? = some ci := bget2 hci
    have hD := digit_S ci
    have hg := nb_get2 hci
    by_cases hv : dv ci.toNat < 16
    · rw [dvI_lo hv] at hD
      have c3 : cm .lss (dv ci.toNat : Int) 0 = false := cm_lo' (by omega)
      repeat (first | refine L.indexS (h0 := Int.natCast_nonneg i) (hv := gx) (c := ?_) | refine C.seq ?_ | refine C.region ?_ | refine L.nil ?_ | refine D.seq ?_ | refine L.move (k := ?_) | refine L.assign (k := ?_) | refine L.cm (c := ?_) | refine L.ar (c := ?_) | refine C.yes (h1 := ?_) | refine C.no (h1 := ?_) | refine L.lenS (c := ?_) | refine C.block ?_ | refine D.blkNormal ?_ | refine C.skip ?_ | refine L.callQ (hD) (k := ?_))
      refine D.then_ fun a1 w1 hs => ⟨i + 1, ⟨hlt, fun c hc => ?_⟩, by omega, hs.lessE rfl (lk_cons rfl (lk_cons rfl (fun _ _ h => lk_nil h)))⟩
      rw [List.take_add_one, hg] at hc
      rcases List.mem_append.1 hc with h1 | h1
      · exact hall c h1
      · obtain rfl : c = ci.toNat := by simpa using h1
        exact hv
    · rw [dvI_hi hv] at hD
      have c3 : cm .lss (-1 : Int) 0 = true := rfl
      rw [if_neg (fun hh => hv (hh _ (List.mem_of_getElem? hg)))] at h
      obtain ⟨rfl, rfl⟩ : 0 = n ∧ 7 = e := by simpa using h
      repeat (first | refine L.indexS (h0 := Int.natCast_nonneg i) (hv := gx) (c := ?_) | refine C.seq ?_ | refine C.region ?_ | refine L.nil ?_ | refine D.seq ?_ | refine L.move (k := ?_) | refine L.assign (k := ?_) | refine L.cm (c := ?_) | refine C.yes (h1 := ?_) | refine L.lenS (c := ?_) | refine C.block ?_ | refine C.ret ?_ | refine D.thenRet ?_ | refine D.blkRet ?_ | refine C.skip ?_ | refine L.callQ (hD) (k := ?_))
      exact D.ret (vs := [osV 0 none, .int .i64 7]) (RV.tmp rfl (RV.tmp rfl RV.nil)) (fun w' hw => Post.mk (is := []) hw List.nodup_nil rfl (nilE 7))
  have c1 : cm .lss (i : Int) s.size = false := cm_lo' (by omega)
  rw [List.take_of_length_le (by rw [hlen]; exact hge)] at hall
  rw [if_pos hall] at h
  repeat (first | refine C.seq ?_ | refine C.region ?_ | refine L.nil ?_ | refine D.seq ?_ | refine L.move (k := ?_) | refine L.cm (c := ?_) | refine C.no (h1 := ?_) | refine L.lenS (c := ?_) | refine C.block ?_ | refine C.exit ?_ | refine D.thenExit ?_ | refine D.blkExit ?_)
  refine C.loop (α := ByteArray) (fun x => x.size ≤ s.size ∧ rdT (nb x) = rdT (nb s) ∧ ∀ c ∈ nb x, dv c < 16) (fun x => [(0, .string x)]) (fun _ => []) (fun x => x.size) s (fun a w hs => hs.lessE rfl (lk_cons rfl (fun _ _ h => lk_nil h))) ⟨Nat.le_refl _, rfl, hall⟩ ?_
  rintro x ⟨hxs, hxr, hxa⟩
  have hxl := nb_len2 x
  by_cases hst : 0 < x.size ∧ ∃ c, x.data.toList[0]? = some c ∧ c.toNat = 48
  · obtain ⟨hp, c, hc, h48⟩ := hst
    have e1 : cm .gtr (x.size : Int) 0 = true := cm_gt (by omega)
    have e2 : cm .eql (c.toNat : Int) 48 = true := cm_yes (by omega)
    have g0 : x[(0 : Int).toNat]? = some c := bget2 hc
    have hcut := nb_cut2 x
    have hcs : (x.extract 1 x.size).size = x.size - 1 := by rw [← nb_len2, hcut, List.length_drop, nb_len2]
    have hg := nb_get2 hc
    repeat (first | refine C.seq ?_ | refine C.region ?_ | refine L.nil ?_ | refine D.seq ?_ | refine L.move (k := ?_) | refine L.assign (k := ?_) | refine L.cm (c := ?_) | refine C.yes (h1 := ?_) | refine L.pickT (k := ?_) | refine L.want (k := ?_) | refine L.lenS (c := ?_) | refine C.block ?_ | refine D.blkNormal ?_ | refine C.skip ?_ | refine L.indexS (h0 := Int.natCast_nonneg 0) (hv := g0) (c := ?_) | refine L.sliceS (lo := 1) (hi := x.size) (hy := .inr ⟨_, _, rfl, rfl⟩) (hz := .inl ⟨rfl, rfl⟩) (h1 := by omega) (h2 := Nat.le_refl _) (c := ?_))
    refine D.then_ fun a1 w1 hs => ⟨x.extract 1 x.size, ⟨by omega, ?_, fun c hc => hxa c (List.mem_of_mem_drop (by rw [← hcut]; exact hc))⟩, by omega, hs.lessE rfl (lk_cons rfl (fun _ _ h => lk_nil h))⟩
    rw [hcut, ← hxr]
    match hq : nb x, hg with
    | c0 :: r, hg =>
      have : c0 = 48 := by simp at hg; omega
      rw [this, rdT_cons48]; rfl
  have hnd : ndig (rdT (nb s)) = x.size := by
    rw [← hxr, ← hxl]
    match hq : nb x with
    | [] => rfl
    | c0 :: r =>
      unfold rdT
      rw [List.map_cons, ndig_rdN, List.length_map, List.length_cons]
      · intro y hy
        rw [← List.map_cons, ← hq] at hy
        obtain ⟨c, hc, rfl⟩ := List.mem_map.1 hy
        exact hxa c hc
      · intro h0
        apply hst
        have h2 := dv_zero.1 h0
        unfold nb at hq
        match hq2 : x.data.toList, hq with
        | c1 :: r1, hq =>
          simp at hq
          have : x.size ≠ 0 := by rw [← hxl]; unfold nb; rw [hq2]; simp
          exact ⟨by omega, c1, by simp, by omega⟩
  rw [hnd] at h
  have hd16 : ∀ d ∈ (nb x).map dv, d < 16 := fun d hd => by
    obtain ⟨c, hc, rfl⟩ := List.mem_map.1 hd
    exact hxa c hc
  by_cases h81 : 8192 < x.size
  · rw [if_pos h81] at h
    obtain ⟨rfl, rfl⟩ : 0 = n ∧ 3 = e := by simpa using h
    have f1 : cm .gtr (x.size : Int) 8192 = true := cm_gt (by omega)
    obtain ⟨c, hc⟩ : ∃ c, x.data.toList[0]? = some c := ⟨_, List.getElem?_eq_getElem (show 0 < x.data.toList.length by show 0 < x.size; omega)⟩
    have g0 : x[(0 : Int).toNat]? = some c := bget2 hc
    have e1 : cm .gtr (x.size : Int) 0 = true := cm_gt (by omega)
    have e2 : cm .eql (c.toNat : Int) 48 = false := cm_no (fun h48 => hst ⟨by omega, c, hc, by omega⟩)
    repeat (first | refine C.seq ?_ | refine C.region ?_ | refine L.nil ?_ | refine D.seq ?_ | refine L.move (k := ?_) | refine L.assign (k := ?_) | refine L.cm (c := ?_) | refine C.yes (h1 := ?_) | refine C.no (h1 := ?_) | refine L.pickT (k := ?_) | refine L.want (k := ?_) | refine L.lenS (c := ?_) | refine C.ret ?_ | refine D.thenRet ?_ | refine C.exit ?_ | refine D.thenExit ?_ | refine D.blkExit ?_ | refine L.indexS (h0 := Int.natCast_nonneg 0) (hv := g0) (c := ?_))
    exact D.ret (vs := [osV 0 none, .int .i64 3]) (RV.tmp rfl (RV.tmp rfl RV.nil)) (fun w' hw => Post.mk (is := []) hw List.nodup_nil rfl (nilE 3))
  rw [if_neg h81] at h
  obtain ⟨hn, rfl⟩ : rdT (nb s) = n ∧ 0 = e := by simpa using h
  have f1 : cm .gtr (x.size : Int) 8192 = false := cm_gt' (by omega)
  have f2 : ar .add .i64 (x.size : Int) 15 = ((x.size + 15 : Nat) : Int) := i64_add (b := 15) (by omega)
  have f3 : ar .quo .i64 ((x.size + 15 : Nat) : Int) 16 = (((x.size + 15) / 16 : Nat) : Int) := i64_quo (b := 16) (by omega)
  have f4 : (x.size + 15) / 16 ≤ maxLen := by unfold maxLen; omega
  rcases Nat.eq_zero_or_pos x.size with hz | hp
  · have e1 : cm .gtr (x.size : Int) 0 = false := cm_gt' (by omega)
    repeat (first | refine C.seq ?_ | refine C.region ?_ | refine L.nil ?_ | refine D.seq ?_ | refine L.move (k := ?_) | refine L.cm (c := ?_) | refine L.ar (c := ?_) | refine C.no (h1 := ?_) | refine L.pickF (k := ?_) | refine L.pass (k := ?_) | refine L.lenS (c := ?_) | refine C.exit ?_ | refine D.thenExit ?_ | refine D.blkExit ?_ | refine C.skip ?_)
    repeat (first | refine C.seq ?_ | refine C.region ?_ | refine L.nil ?_ | refine D.seq ?_ | refine L.assign (k := ?_) | refine C.block ?_ | (refine L.makeZ (m := (x.size + 15) / 16) rfl (by omega) f4 (c := ?_); intro bo))
    rw [u64s_zero]
    have sn : SlV (.slice (some ⟨bo, 0, none⟩) ((x.size + 15) / 16) ((x.size + 15) / 16)) ((x.size + 15) / 16) := SlV.mk _ _ (Nat.le_refl _)
    have hml : ((nb x).map dv).length = x.size := by rw [List.length_map, hxl]
    refine C.loop (α := Nat × List Nat) (fun g => g.1 ≤ x.size ∧ g.2.length = (x.size + 15) / 16 ∧ okL g.2 ∧ lv g.2 = rdN (((nb x).map dv).take g.1) * 16 ^ (x.size - g.1))
      (fun g => [(0, .string x), (5, .slice (some ⟨bo, 0, none⟩) ((x.size + 15) / 16) ((x.size + 15) / 16)), (6, .int .i64 (g.1 : Int))]) (fun g => [(bo, ob (u64s g.2) 34)]) (fun g => x.size - g.1) (0, List.replicate ((x.size + 15) / 16) 0)
      (fun a w hs => hs.lessE rfl (lk_cons rfl (lk_cons rfl (lk_cons rfl (fun _ _ h => lk_nil h))))) ⟨Nat.zero_le _, by simp, (fun x hx => by rw [List.eq_of_mem_replicate hx]; omega), by rw [lv_zero (fun x hx => List.eq_of_mem_replicate hx)]; simp [rdN], ⟩ ?_
    rintro ⟨i, out⟩ ⟨hi, hol, hok, hv⟩
    simp only at hi hol hok hv
    dsimp only
    rcases Nat.lt_or_ge i x.size with hlt | hge
    · have g1 : cm .lss (i : Int) x.size = true := cm_lo (by omega)
      have g2 : ar .add .i64 (i : Int) 1 = ((i + 1 : Nat) : Int) := i64_add (b := 1) (by omega)
      obtain ⟨k, hk⟩ : ∃ k, x.size = i + k + 1 := ⟨x.size - 1 - i, by omega⟩
      have g3 : ar .sub .i64 (x.size : Int) 1 = ((i + k : Nat) : Int) := (i64_sub (a := x.size) (b := 1) (by omega) (by omega)).trans (by omega)
      have g4 : ar .sub .i64 ((i + k : Nat) : Int) (i : Int) = (k : Int) := (i64_sub (a := i + k) (b := i) (by omega) (by omega)).trans (by omega)
      have g5 : ar .quo .i64 (k : Int) 16 = ((k / 16 : Nat) : Int) := i64_quo (b := 16) (by omega)
      have g6 : ar .rem .i64 (k : Int) 16 = ((k % 16 : Nat) : Int) := i64_rem (b := 16)
      have g7 : ar .mul .i64 4 ((k % 16 : Nat) : Int) = ((4 * (k % 16) : Nat) : Int) := i64_mulL (a := 4) (by omega)
      have g8 : IntKind.u64.wrap ((4 * (k % 16) : Nat) : Int) = ((4 * (k % 16) : Nat) : Int) := u64_wrap (by omega)
      have hko : arOk .shl .u64 .u64 ((4 * (k % 16) : Nat) : Int) = true := decide_eq_true (p := (0 : Int) ≤ ((4 * (k % 16) : Nat) : Int)) (by omega)
      obtain ⟨ci, hci⟩ : ∃ ci, x.data.toList[i]? = some ci := ⟨_, List.getElem?_eq_getElem (show i < x.data.toList.length from hlt)⟩
      have gx : x[((i : Nat) : Int).toNat]? = some ci := bget2 hci
      have hD := digit_S ci
      have hg := nb_get2 hci
      have hdv := hxa _ (List.mem_of_getElem? hg)
      rw [dvI_lo hdv] at hD
      have htk : ((nb x).map dv).take (i + 1) = ((nb x).map dv).take i ++ [dv ci.toNat] := by rw [List.take_add_one, List.getElem?_map, hg]; rfl
      generalize dv ci.toNat = dd at *
      have g9 : IntKind.u64.wrap (dd : Int) = (dd : Int) := u64_wrap (by omega)
      have hqi : k / 16 < out.length := by omega
      have hidx : k / 16 < (x.size + 15) / 16 := by omega
      rw [show x.size - i = k + 1 by omega] at hv
      have hnib := or_nib hok hqi hdv (by rw [hv]; exact Nat.mul_mod_left _ _)
      have hb64 : dd * 2 ^ (4 * (k % 16)) < 18446744073709551616 := by
        have h1 : 2 ^ (4 * (k % 16)) ≤ 2 ^ 60 := Nat.pow_le_pow_right (by omega) (by omega)
        have h2 : dd * 2 ^ (4 * (k % 16)) ≤ 15 * 2 ^ 60 := Nat.mul_le_mul (by omega) h1
        exact Nat.lt_of_le_of_lt h2 (by decide)
      have g10 : ar .shl .u64 (dd : Int) ((4 * (k % 16) : Nat) : Int) = ((dd * 2 ^ (4 * (k % 16)) : Nat) : Int) := by
        have := ar_shlN dd (4 * (k % 16)) (by omega)
        rw [Nat.mod_eq_of_lt hb64] at this; exact this
      have g11 : ar .or .u64 (lmb out (k / 16) : Int) ((dd * 2 ^ (4 * (k % 16)) : Nat) : Int) = ((lmb out (k / 16) ||| dd * 2 ^ (4 * (k % 16)) : Nat) : Int) := ar_orN _ _ (lmb_lt hok _) hb64
      have kq := u64s_get (get_lmb hqi)
      have hqc : k / 16 < (u64s out).length := by rw [u64s_len]; exact hqi
      have hoo : sO (.slice (some ⟨bo, 0, none⟩) ((x.size + 15) / 16) ((x.size + 15) / 16)) + (k / 16) * 1 = k / 16 := by simp [sO]
      repeat (first | refine C.seq ?_ | refine C.region ?_ | refine L.nil ?_ | refine D.seq ?_ | refine L.move (k := ?_) | refine L.assign (k := ?_) | refine L.cm (c := ?_) | refine L.ar (c := ?_) | refine C.yes (h1 := ?_) | refine L.lenS (c := ?_) | refine C.block ?_ | refine C.skip ?_)
      refine C.mixed (h := ?_)
      repeat' (first | refine QW.loadN 0 (k / 16) kq hoo (c := ?_) | refine QW.storeN 0 (k / 16) hqc hoo (c := ?_) | refine L.convI (hz := g9) (c := ?_) | refine L.convI (hz := g8) (c := ?_) | refine L.ar (op := .shl) (ho := hko) (hz := g10) (c := ?_) | refine L.indexS (h0 := Int.natCast_nonneg i) (hv := gx) (c := ?_) | refine L.callQ (hD) (k := ?_) | refine L.nil ?_ | refine L.move (k := ?_) | refine L.ar (c := ?_) | exact D.endsQ | (refine QW.free (v := ?_) (by exact rfl) (by exact rfl) (fun w1 hk1 => ?_) ?_; rotate_left) | refine L.indexR sn hidx (c := ?_))
      refine QW.finK [] (ks := [0, 0, 0, 0, 0, 0, 0, 1, 0, 0, 0, 0, 0, 0, 0, 0, 0, 0, 0, 0, 2]) (hx := fun p hp => by cases hp) (h := ?_)
      repeat (first | refine C.region ?_ | refine L.nil ?_ | refine D.seq ?_ | refine L.move (k := ?_) | refine L.assign (k := ?_) | refine L.ar (c := ?_) | refine D.blkNormal ?_)
      refine D.then_ fun a1 w1 hs => ⟨(i + 1, out.set (k / 16) (lmb out (k / 16) ||| dd * 2 ^ (4 * (k % 16)))), ⟨hlt, by rw [List.length_set]; exact hol, hnib.1, ?_⟩, by simp only; omega, ?_⟩
      · simp only
        rw [hnib.2, hv, htk, rdN_app, show x.size - (i + 1) = k by omega, Nat.add_mul, Nat.pow_succ, Nat.mul_assoc, Nat.mul_comm (16 ^ k) 16]
        show rdN _ * (16 * 16 ^ k) + dd * 16 ^ k = 16 ^ 1 * (rdN _ * 16 ^ k) + (16 * 0 + dd) * 16 ^ k
        rw [Nat.pow_one, Nat.mul_zero, Nat.zero_add, Nat.mul_left_comm]
      · simp only [← u64s_set]
        exact hs.lessE rfl (lk_cons rfl (lk_cons rfl (lk_cons rfl (fun _ _ h => lk_nil h))))
    · have g1 : cm .lss (i : Int) x.size = false := cm_lo' (by omega)
      have hv2 : lv out = n := by
        rw [hv, List.take_of_length_le (by omega), show x.size - i = 0 by omega, Nat.pow_zero, Nat.mul_one, ← hn, ← hxr]
        rfl
      have hT := trim2_S out n hok (by omega) hv2 (.slice (some ⟨bo, 0, none⟩) ((x.size + 15) / 16) ((x.size + 15) / 16))
      repeat (first | refine C.seq ?_ | refine C.region ?_ | refine L.nil ?_ | refine D.seq ?_ | refine L.move (k := ?_) | refine L.cm (c := ?_) | refine C.no (h1 := ?_) | refine L.lenS (c := ?_) | refine C.exit ?_ | refine D.thenExit ?_ | refine D.blkExit ?_ | refine D.seqR (h := ?_))
      refine L.callP [] hT (hpre := fun w hw => by unfold RdN; rw [hol]; exact Rd.own (hw.holds _ List.mem_cons_self) (by simp) (Nat.le_refl _) ((x.size + 15) / 16) (by rw [List.take_of_length_le (by rw [u64s_len, hol]; exact Nat.le_refl _)])) (k := ?_)
      rintro u B ⟨y2, hG2, rfl, rfl⟩
      rw [hdrop_nil]
      rcases y2 with _ | ⟨p1, q1, s1⟩
      · simp only [osC, List.nil_append, List.cons_append]
        repeat (first | refine L.nil ?_ | refine L.assign (k := ?_) | refine C.ret ?_ | refine D.seqR (h := ?_))
        exact D.ret (vs := [osV (can n).length none, .int .i64 0]) (RV.tmp rfl (RV.tmp rfl RV.nil)) (fun w' hw => Post.mk (is := []) hw (by decide) rfl ⟨none, hG2, rfl, rfl⟩)
      · simp only [osC, List.nil_append, List.cons_append]
        repeat (first | refine L.nil ?_ | refine L.assign (k := ?_) | refine C.ret ?_ | refine D.seqR (h := ?_))
        exact D.ret (vs := [osV (can n).length (some (p1, q1, s1)), .int .i64 0]) (RV.tmp rfl (RV.tmp rfl RV.nil)) (fun w' hw => Post.mk (is := [0]) hw (by decide) rfl ⟨some (p1, q1, s1), hG2, rfl, rfl⟩)
  · obtain ⟨c, hc⟩ : ∃ c, x.data.toList[0]? = some c := ⟨_, List.getElem?_eq_getElem (show 0 < x.data.toList.length from hp)⟩
    have g0 : x[(0 : Int).toNat]? = some c := bget2 hc
    have e1 : cm .gtr (x.size : Int) 0 = true := cm_gt (by omega)
    have e2 : cm .eql (c.toNat : Int) 48 = false := cm_no (fun h48 => hst ⟨hp, c, hc, by omega⟩)
    repeat (first | refine C.seq ?_ | refine C.region ?_ | refine L.nil ?_ | refine D.seq ?_ | refine L.move (k := ?_) | refine L.cm (c := ?_) | refine L.ar (c := ?_) | refine C.no (h1 := ?_) | refine L.pickT (k := ?_) | refine L.want (k := ?_) | refine L.lenS (c := ?_) | refine C.exit ?_ | refine D.thenExit ?_ | refine D.blkExit ?_ | refine C.skip ?_ | refine L.indexS (h0 := Int.natCast_nonneg 0) (hv := g0) (c := ?_))
    repeat (first | refine C.seq ?_ | refine C.region ?_ | refine L.nil ?_ | refine D.seq ?_ | refine L.assign (k := ?_) | refine C.block ?_ | (refine L.makeZ (m := (x.size + 15) / 16) rfl (by omega) f4 (c := ?_); intro bo))
    rw [u64s_zero]
    have sn : SlV (.slice (some ⟨bo, 0, none⟩) ((x.size + 15) / 16) ((x.size + 15) / 16)) ((x.size + 15) / 16) := SlV.mk _ _ (Nat.le_refl _)
    have hml : ((nb x).map dv).length = x.size := by rw [List.length_map, hxl]
    refine C.loop (α := Nat × List Nat) (fun g => g.1 ≤ x.size ∧ g.2.length = (x.size + 15) / 16 ∧ okL g.2 ∧ lv g.2 = rdN (((nb x).map dv).take g.1) * 16 ^ (x.size - g.1))
      (fun g => [(0, .string x), (5, .slice (some ⟨bo, 0, none⟩) ((x.size + 15) / 16) ((x.size + 15) / 16)), (6, .int .i64 (g.1 : Int))]) (fun g => [(bo, ob (u64s g.2) 34)]) (fun g => x.size - g.1) (0, List.replicate ((x.size + 15) / 16) 0)
      (fun a w hs => hs.lessE rfl (lk_cons rfl (lk_cons rfl (lk_cons rfl (fun _ _ h => lk_nil h))))) ⟨Nat.zero_le _, by simp, (fun x hx => by rw [List.eq_of_mem_replicate hx]; omega), by rw [lv_zero (fun x hx => List.eq_of_mem_replicate hx)]; simp [rdN], ⟩ ?_
    rintro ⟨i, out⟩ ⟨hi, hol, hok, hv⟩
    simp only at hi hol hok hv
    dsimp only
    rcases Nat.lt_or_ge i x.size with hlt | hge
    · have g1 : cm .lss (i : Int) x.size = true := cm_lo (by omega)
      have g2 : ar .add .i64 (i : Int) 1 = ((i + 1 : Nat) : Int) := i64_add (b := 1) (by omega)
      obtain ⟨k, hk⟩ : ∃ k, x.size = i + k + 1 := ⟨x.size - 1 - i, by omega⟩
      have g3 : ar .sub .i64 (x.size : Int) 1 = ((i + k : Nat) : Int) := (i64_sub (a := x.size) (b := 1) (by omega) (by omega)).trans (by omega)
      have g4 : ar .sub .i64 ((i + k : Nat) : Int) (i : Int) = (k : Int) := (i64_sub (a := i + k) (b := i) (by omega) (by omega)).trans (by omega)
      have g5 : ar .quo .i64 (k : Int) 16 = ((k / 16 : Nat) : Int) := i64_quo (b := 16) (by omega)
      have g6 : ar .rem .i64 (k : Int) 16 = ((k % 16 : Nat) : Int) := i64_rem (b := 16)
      have g7 : ar .mul .i64 4 ((k % 16 : Nat) : Int) = ((4 * (k % 16) : Nat) : Int) := i64_mulL (a := 4) (by omega)
      have g8 : IntKind.u64.wrap ((4 * (k % 16) : Nat) : Int) = ((4 * (k % 16) : Nat) : Int) := u64_wrap (by omega)
      have hko : arOk .shl .u64 .u64 ((4 * (k % 16) : Nat) : Int) = true := decide_eq_true (p := (0 : Int) ≤ ((4 * (k % 16) : Nat) : Int)) (by omega)
      obtain ⟨ci, hci⟩ : ∃ ci, x.data.toList[i]? = some ci := ⟨_, List.getElem?_eq_getElem (show i < x.data.toList.length from hlt)⟩
      have gx : x[((i : Nat) : Int).toNat]? = some ci := bget2 hci
      have hD := digit_S ci
      have hg := nb_get2 hci
      have hdv := hxa _ (List.mem_of_getElem? hg)
      rw [dvI_lo hdv] at hD
      have htk : ((nb x).map dv).take (i + 1) = ((nb x).map dv).take i ++ [dv ci.toNat] := by rw [List.take_add_one, List.getElem?_map, hg]; rfl
      generalize dv ci.toNat = dd at *
      have g9 : IntKind.u64.wrap (dd : Int) = (dd : Int) := u64_wrap (by omega)
      have hqi : k / 16 < out.length := by omega
      have hidx : k / 16 < (x.size + 15) / 16 := by omega
      rw [show x.size - i = k + 1 by omega] at hv
      have hnib := or_nib hok hqi hdv (by rw [hv]; exact Nat.mul_mod_left _ _)
      have hb64 : dd * 2 ^ (4 * (k % 16)) < 18446744073709551616 := by
        have h1 : 2 ^ (4 * (k % 16)) ≤ 2 ^ 60 := Nat.pow_le_pow_right (by omega) (by omega)
        have h2 : dd * 2 ^ (4 * (k % 16)) ≤ 15 * 2 ^ 60 := Nat.mul_le_mul (by omega) h1
        exact Nat.lt_of_le_of_lt h2 (by decide)
      have g10 : ar .shl .u64 (dd : Int) ((4 * (k % 16) : Nat) : Int) = ((dd * 2 ^ (4 * (k % 16)) : Nat) : Int) := by
        have := ar_shlN dd (4 * (k % 16)) (by omega)
        rw [Nat.mod_eq_of_lt hb64] at this; exact this
      have g11 : ar .or .u64 (lmb out (k / 16) : Int) ((dd * 2 ^ (4 * (k % 16)) : Nat) : Int) = ((lmb out (k / 16) ||| dd * 2 ^ (4 * (k % 16)) : Nat) : Int) := ar_orN _ _ (lmb_lt hok _) hb64
      have kq := u64s_get (get_lmb hqi)
      have hqc : k / 16 < (u64s out).length := by rw [u64s_len]; exact hqi
      have hoo : sO (.slice (some ⟨bo, 0, none⟩) ((x.size + 15) / 16) ((x.size + 15) / 16)) + (k / 16) * 1 = k / 16 := by simp [sO]
      repeat (first | refine C.seq ?_ | refine C.region ?_ | refine L.nil ?_ | refine D.seq ?_ | refine L.move (k := ?_) | refine L.assign (k := ?_) | refine L.cm (c := ?_) | refine L.ar (c := ?_) | refine C.yes (h1 := ?_) | refine L.lenS (c := ?_) | refine C.block ?_ | refine C.skip ?_)
      refine C.mixed (h := ?_)
      repeat' (first | refine QW.loadN 0 (k / 16) kq hoo (c := ?_) | refine QW.storeN 0 (k / 16) hqc hoo (c := ?_) | refine L.convI (hz := g9) (c := ?_) | refine L.convI (hz := g8) (c := ?_) | refine L.ar (op := .shl) (ho := hko) (hz := g10) (c := ?_) | refine L.indexS (h0 := Int.natCast_nonneg i) (hv := gx) (c := ?_) | refine L.callQ (hD) (k := ?_) | refine L.nil ?_ | refine L.move (k := ?_) | refine L.ar (c := ?_) | exact D.endsQ | (refine QW.free (v := ?_) (by exact rfl) (by exact rfl) (fun w1 hk1 => ?_) ?_; rotate_left) | refine L.indexR sn hidx (c := ?_))
      refine QW.finK [] (ks := [0, 0, 0, 0, 0, 0, 0, 1, 0, 0, 0, 0, 0, 0, 0, 0, 0, 0, 0, 0, 2]) (hx := fun p hp => by cases hp) (h := ?_)
      repeat (first | refine C.region ?_ | refine L.nil ?_ | refine D.seq ?_ | refine L.move (k := ?_) | refine L.assign (k := ?_) | refine L.ar (c := ?_) | refine D.blkNormal ?_)
      refine D.then_ fun a1 w1 hs => ⟨(i + 1, out.set (k / 16) (lmb out (k / 16) ||| dd * 2 ^ (4 * (k % 16)))), ⟨hlt, by rw [List.length_set]; exact hol, hnib.1, ?_⟩, by simp only; omega, ?_⟩
      · simp only
        rw [hnib.2, hv, htk, rdN_app, show x.size - (i + 1) = k by omega, Nat.add_mul, Nat.pow_succ, Nat.mul_assoc, Nat.mul_comm (16 ^ k) 16]
        show rdN _ * (16 * 16 ^ k) + dd * 16 ^ k = 16 ^ 1 * (rdN _ * 16 ^ k) + (16 * 0 + dd) * 16 ^ k
        rw [Nat.pow_one, Nat.mul_zero, Nat.zero_add, Nat.mul_left_comm]
      · simp only [← u64s_set]
        exact hs.lessE rfl (lk_cons rfl (lk_cons rfl (lk_cons rfl (fun _ _ h => lk_nil h))))
    · have g1 : cm .lss (i : Int) x.size = false := cm_lo' (by omega)
      have hv2 : lv out = n := by
        rw [hv, List.take_of_length_le (by omega), show x.size - i = 0 by omega, Nat.pow_zero, Nat.mul_one, ← hn, ← hxr]
        rfl
      have hT := trim2_S out n hok (by omega) hv2 (.slice (some ⟨bo, 0, none⟩) ((x.size + 15) / 16) ((x.size + 15) / 16))
      repeat (first | refine C.seq ?_ | refine C.region ?_ | refine L.nil ?_ | refine D.seq ?_ | refine L.move (k := ?_) | refine L.cm (c := ?_) | refine C.no (h1 := ?_) | refine L.lenS (c := ?_) | refine C.exit ?_ | refine D.thenExit ?_ | refine D.blkExit ?_ | refine D.seqR (h := ?_))
      refine L.callP [] hT (hpre := fun w hw => by unfold RdN; rw [hol]; exact Rd.own (hw.holds _ List.mem_cons_self) (by simp) (Nat.le_refl _) ((x.size + 15) / 16) (by rw [List.take_of_length_le (by rw [u64s_len, hol]; exact Nat.le_refl _)])) (k := ?_)
      rintro u B ⟨y2, hG2, rfl, rfl⟩
      rw [hdrop_nil]
      rcases y2 with _ | ⟨p1, q1, s1⟩
      · simp only [osC, List.nil_append, List.cons_append]
        repeat (first | refine L.nil ?_ | refine L.assign (k := ?_) | refine C.ret ?_ | refine D.seqR (h := ?_))
        exact D.ret (vs := [osV (can n).length none, .int .i64 0]) (RV.tmp rfl (RV.tmp rfl RV.nil)) (fun w' hw => Post.mk (is := []) hw (by decide) rfl ⟨none, hG2, rfl, rfl⟩)
      · simp only [osC, List.nil_append, List.cons_append]
        repeat (first | refine L.nil ?_ | refine L.assign (k := ?_) | refine C.ret ?_ | refine D.seqR (h := ?_))
        exact D.ret (vs := [osV (can n).length (some (p1, q1, s1)), .int .i64 0]) (RV.tmp rfl (RV.tmp rfl RV.nil)) (fun w' hw => Post.mk (is := [0]) hw (by decide) rfl ⟨some (p1, q1, s1), hG2, rfl, rfl⟩)
end Go.Proofs.YtpemoeincepilaaDoor.Nt
