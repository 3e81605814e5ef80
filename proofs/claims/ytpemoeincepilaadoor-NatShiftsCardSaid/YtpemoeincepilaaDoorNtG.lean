/- nat.Text: what it answers, told by numbers. Conditions: at most a million limbs. -/
import Derived.Test.YtpemoeincepilaaDoorNtF
import Derived.Test.YtpemoeincepilaaDoorBuild
set_option linter.unusedVariables false
set_option linter.unusedSimpArgs false
namespace Go.Proofs.YtpemoeincepilaaDoor.Nt
open Go Go.RowKit SL
attribute [local irreducible] SL.L SL.C SL.D SL.N SL.H SL.QL SL.QW SL.QP

theorem i64_quo {a b : Nat} (h : a < 9223372036854775808) : ar .quo .i64 (a : Int) (b : Int) = ((a / b : Nat) : Int) := by
  have hd : (a : Int).tdiv b = ((a / b : Nat) : Int) := Int.ofNat_tdiv a b |>.symm
  have : a / b ≤ a := Nat.div_le_self _ _
  show IntKind.i64.wrap ((a : Int).tdiv b) = _
  rw [hd]; exact i64w (by omega)
theorem i64_rem {a b : Nat} : ar .rem .i64 (a : Int) (b : Int) = ((a % b : Nat) : Int) := by
  show (a : Int).tmod b = _
  exact Int.ofNat_tmod a b |>.symm
def d8 (d : Nat) : UInt8 := UInt8.ofNat (dig d)
def text8 (n : Nat) : List UInt8 := (textN n).map UInt8.ofNat
theorem text8_pos {n : Nat} (h : n ≠ 0) : text8 n = (digs n (ndig n)).map d8 := by unfold text8 textN; rw [if_neg h, List.map_map]; rfl
theorem hex_at {d : Nat} (h : d < 16) : (⟨#[48, 49, 50, 51, 52, 53, 54, 55, 56, 57, 97, 98, 99, 100, 101, 102]⟩ : ByteArray)[((d : Nat) : Int).toNat]? = some (d8 d) := by
  rw [Int.toNat_natCast]
  have key : ∀ d, d < 16 → (⟨#[48, 49, 50, 51, 52, 53, 54, 55, 56, 57, 97, 98, 99, 100, 101, 102]⟩ : ByteArray)[d]? = some (d8 d) := by decide
  exact key d h
theorem ndig_limbs {l : List Nat} (ho : okL l) {i : Nat} (h : i < ndig (lv l)) : i / 16 < l.length := by
  have h1 := bitsN_can_le (lv l)
  have h2 := can_le ho
  unfold ndig at h; omega
theorem blen_S (b : Nat) (p : Option Addr) (bs : List UInt8) (y : OS) (hG : bG bs y) : Ctr Tryd.prog 44 [.pointer (some ⟨b, 0, none⟩)] (bHp b p bs y) tt (is (.int .i64 bs.length) (bHp b p bs y)) := by
  refine Ctr.enter Tryd.func44 Tryd.ntmps44 rfl rfl (fun w _ => ?_)
  repeat (first | refine C.seq ?_ | refine C.region ?_ | refine L.nil ?_ | refine D.seq ?_ | refine L.move (k := ?_) | refine L.assign (k := ?_) | refine L.fieldAddr (c := ?_) | refine L.load1 0 (c := ?_) | refine L.nilCheck (k := ?_) | refine C.ret ?_ | refine L.lenR hG.1.sl (c := ?_))
  exact D.ret (vs := [_]) (RV.tmp rfl RV.nil) (fun w' hw => Post.mkD 0 hw rfl ⟨rfl, rfl⟩)
/-- A builder between two rounds. -/
structure Tx where
  j : Nat
  bs : List UInt8
  p : Option Addr
  y : OS
set_option maxRecDepth 100000 in
set_option maxHeartbeats 8000000 in
theorem text_S (l : List Nat) (ho : okL l) (hl : l.length ≤ 1000000) (v : Value) : Ctr Tryd.prog 11 [v] [] (fun w => RdN w [] v l) (is (.string ⟨(text8 (lv l)).toArray⟩) []) := by
  refine Ctr.enter Tryd.func11 Tryd.ntmps11 rfl rfl (fun w hr => ?_)
  have sv := hr.1
  have hB := bits_S l ho hl v
  have hb64 : bitsN (lv l) ≤ 64 * l.length := Nat.le_trans (bitsN_can_le _) (Nat.mul_le_mul_left _ (can_le ho))
  have c1 : ar .add .i64 (bitsN (lv l) : Int) 3 = ((bitsN (lv l) + 3 : Nat) : Int) := i64_addL (b := 3) (by omega)
  have c2 : ar .quo .i64 ((bitsN (lv l) + 3 : Nat) : Int) 4 = (ndig (lv l) : Int) := i64_quo (b := 4) (by omega)
  have hnd : ndig (lv l) ≤ 100000000 := by unfold ndig; omega
  have c3 : ar .sub .i64 (ndig (lv l) : Int) 1 = (ndig (lv l) : Int) - 1 := by
    show IntKind.i64.wrap _ = _
    rw [IntKind.wrap_i64]; omega
  repeat (first | refine C.seq ?_ | refine C.region ?_ | refine L.nil ?_ | refine D.seq ?_ | refine L.move (k := ?_) | refine L.assign (k := ?_) | refine L.ar (c := ?_) | refine L.alloc (c := fun _ => ?_) | refine C.block ?_ | refine L.callQ hB (hpre := fun w hw => hr.at hw) (k := ?_))
  rename_i b
  refine C.loop (α := Tx) (fun g => g.j ≤ ndig (lv l) ∧ bP b g.p ∧ bG g.bs g.y ∧ g.bs.length + g.j = ndig (lv l) ∧ g.bs ++ (digs (lv l) g.j).map d8 = (digs (lv l) (ndig (lv l))).map d8) (fun g => [(0, v), (3, .pointer (some ⟨b, 0, none⟩)), (4, .int .i64 ((g.j : Int) - 1))]) (fun g => bHp b g.p g.bs g.y) (fun g => g.j) ⟨ndig (lv l), [], none, none⟩
    (fun a w hs => hs.lessE rfl (lk_cons rfl (lk_cons rfl (lk_cons rfl (fun _ _ h => lk_nil h))))) ⟨Nat.le_refl _, .inl rfl, ⟨osG.nil, by simp⟩, by simp, rfl⟩ ?_
  rintro ⟨j, bs, p, y⟩ ⟨hj, hp, hG, hbl, hd⟩
  simp only at hj hp hG hbl hd ⊢
  rcases Nat.eq_zero_or_pos j with rfl | hpos
  · have d1 : cm .geq (((0 : Nat) : Int) - 1) 0 = false := rfl
    simp only [digs, List.map_nil, List.append_nil] at hd
    rcases Nat.eq_zero_or_pos (lv l) with h0 | h0
    · have hn0 : ndig (lv l) = 0 := by rw [h0]; rfl
      have hb0 : bs = [] := List.eq_nil_of_length_eq_zero (by omega)
      subst hb0
      have ht : text8 (lv l) = [48] := by rw [h0]; rfl
      rw [ht]
      obtain ⟨g1, g2⟩ := hG
      obtain rfl : y = none := g2.2 rfl
      have d2 : cm .eql (([] : List UInt8).length : Int) 0 = true := rfl
      repeat (first | refine C.seq ?_ | refine C.region ?_ | refine L.nil ?_ | refine D.seq ?_ | refine L.move (k := ?_) | refine L.assign (k := ?_) | refine L.cm (c := ?_) | refine C.yes (h1 := ?_) | refine C.no (h1 := ?_) | refine C.ret ?_ | refine D.thenRet ?_ | refine C.exit ?_ | refine D.thenExit ?_ | refine D.blkExit ?_ | refine D.seqR (h := ?_) | (refine L.callD 0 (blen_S b p [] none ⟨g1, g2⟩) (k := ?_); rintro u B ⟨rfl, rfl⟩; simp only [List.take_succ_cons, List.take_zero, List.take_nil, List.cons_append, List.nil_append]))
      exact D.ret (vs := [_]) (RV.tmp rfl RV.nil) (fun w' hw => Post.mk (is := []) hw (by decide) rfl ⟨rfl, rfl⟩)
    · have hne : (ndig_le (n := lv l) (by omega)).2 = (ndig_le (n := lv l) (by omega)).2 := rfl
      have hn1 := (ndig_le (n := lv l) (by omega)).2
      rw [text8_pos (by omega), ← hd]
      have d2 : cm .eql (bs.length : Int) 0 = false := cm_no (by omega)
      repeat (first | refine C.seq ?_ | refine C.region ?_ | refine L.nil ?_ | refine D.seq ?_ | refine L.move (k := ?_) | refine L.cm (c := ?_) | refine C.no (h1 := ?_) | refine C.exit ?_ | refine D.thenExit ?_ | refine D.blkExit ?_ | refine C.skip ?_ | refine D.seqR (h := ?_) | (refine L.callD 0 (blen_S b p bs y hG) (k := ?_); rintro u B ⟨rfl, rfl⟩; simp only [List.take_succ_cons, List.take_zero, List.take_nil, List.cons_append, List.nil_append]))
      refine L.callD 0 (string_S b p bs y hG (by omega)) (k := ?_)
      rintro u B ⟨rfl, rfl⟩
      simp only [List.take_succ_cons, List.take_zero, List.take_nil, List.cons_append, List.nil_append]
      repeat (first | refine L.nil ?_ | refine L.assign (k := ?_) | refine C.ret ?_ | refine D.seqR (h := ?_))
      exact D.ret (vs := [_]) (RV.tmp rfl RV.nil) (fun w' hw => Post.mkD 1 hw rfl ⟨rfl, rfl⟩)
  · obtain ⟨i, rfl⟩ : ∃ i, j = i + 1 := ⟨j - 1, by omega⟩
    rw [show (((i + 1 : Nat) : Int) - 1) = (i : Int) by omega]
    have hidx := ndig_limbs ho (show i < ndig (lv l) by omega)
    have o0 := hr.2 (by omega)
    have kx := u64s_get (get_lmb hidx)
    have hx := lmb_lt ho (i / 16)
    have d1 : cm .geq (i : Int) 0 = true := cm_ge (by omega)
    have d2 : ar .quo .i64 (i : Int) 16 = ((i / 16 : Nat) : Int) := i64_quo (b := 16) (by omega)
    have d3 : ar .rem .i64 (i : Int) 16 = ((i % 16 : Nat) : Int) := i64_rem (b := 16)
    have d4 : ar .mul .i64 4 ((i % 16 : Nat) : Int) = ((4 * (i % 16) : Nat) : Int) := i64_mulL (a := 4) (by omega)
    have d5 : ar .shr .u64 (lmb l (i / 16) : Int) ((4 * (i % 16) : Nat) : Int) = ((lmb l (i / 16) / 2 ^ (4 * (i % 16)) : Nat) : Int) := ar_shrN _ _ (by omega)
    have hk : arOk .shr .u64 .i64 ((4 * (i % 16) : Nat) : Int) = true := decide_eq_true (p := (0 : Int) ≤ ((4 * (i % 16) : Nat) : Int)) (by omega)
    have d6 : ar .and .u64 ((lmb l (i / 16) / 2 ^ (4 * (i % 16)) : Nat) : Int) 15 = ((lv l / 16 ^ i % 16 : Nat) : Int) := by
      rw [dig_limb ho i, Nat.shiftRight_eq_div_pow]
      exact ar_andN _ 15 (Nat.lt_of_le_of_lt (Nat.div_le_self _ _) hx) (by omega)
    have hdl : lv l / 16 ^ i % 16 < 16 := Nat.mod_lt _ (by omega)
    have hdg := hex_at hdl
    have hstep : bs ++ [d8 (lv l / 16 ^ i % 16)] ++ (digs (lv l) i).map d8 = (digs (lv l) (ndig (lv l))).map d8 := by rw [← hd]; simp [digs]
    generalize lv l / 16 ^ i % 16 = dd at *
    have d7 : ar .sub .i64 (i : Int) 1 = (i : Int) - 1 := by
      show IntKind.i64.wrap _ = _
      rw [IntKind.wrap_i64]; omega
    repeat (first | refine L.ar (op := .shr) (ho := hk) (hz := d5) (c := ?_) | refine C.seq ?_ | refine C.region ?_ | refine L.nil ?_ | refine D.seq ?_ | refine L.move (k := ?_) | refine L.cm (c := ?_) | refine L.ar (c := ?_) | refine C.yes (h1 := ?_) | refine C.block ?_ | refine C.skip ?_ | refine L.indexR sv hidx (c := ?_) | refine L.loadF o0 kx (ho := by simp) (c := ?_) | refine L.indexS (h0 := Int.natCast_nonneg dd) (hv := hdg) (c := ?_))
    refine L.callD 0 (writeByte_S b p hp bs y hG (by omega) (d8 dd)) (k := ?_)
    rintro u B ⟨rfl, y', hG', rfl⟩
    simp only [List.take_succ_cons, List.take_zero, List.take_nil, List.cons_append, List.nil_append]
    repeat (first | refine C.region ?_ | refine L.nil ?_ | refine L.move (k := ?_) | refine L.assign (k := ?_) | refine L.ar (c := ?_) | refine D.blkNormal ?_ | refine D.seqR (h := ?_))
    exact D.then_ fun a1 w1 hs => ⟨⟨i, bs ++ [d8 dd], some ⟨b, 0, none⟩, y'⟩, ⟨by simp only; omega, .inr rfl, hG', by simp only [List.length_append, List.length_singleton]; omega, hstep⟩, by simp only; omega, hs.lessE rfl (lk_cons rfl (lk_cons rfl (lk_cons rfl (fun _ _ h => lk_nil h))))⟩
end Go.Proofs.YtpemoeincepilaaDoor.Nt
