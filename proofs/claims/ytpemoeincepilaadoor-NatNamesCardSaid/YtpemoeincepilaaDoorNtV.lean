/- nat: Low, Bit, Fit, (row).shift: what they answer, told by numbers. -/
import Derived.Test.YtpemoeincepilaaDoorNtU
set_option linter.unusedVariables false
set_option linter.unusedSimpArgs false
namespace Go.Proofs.YtpemoeincepilaaDoor.Nt
open Go Go.RowKit SL
attribute [local irreducible] SL.L SL.C SL.D SL.N SL.H SL.QL SL.QW SL.QP

def I64' (n : Int) : Prop := -9223372036854775808 ≤ n ∧ n ≤ 9223372036854775807
def lowK (l : List Nat) (k : Int) : Nat := min k.toNat l.length
theorem low_S (l : List Nat) (hl : nt l) (v : Value) (k : Int) : Ctr Tryd.prog 20 [v, .int .i64 k] [] (fun w => RdN w [] v l) (natR (lv (l.take (lowK l k)))) := by
  have hT := fun u => trim_S (l.take (lowK l k)) (okL_take hl.1 _) (by have := hl.2; rw [List.length_take]; omega) u
  have hmx : (if k > 0 then k else 0) = (k.toNat : Int) := by split <;> omega
  have hmn : (if (l.length : Int) < (k.toNat : Int) then (l.length : Int) else (k.toNat : Int)) = (lowK l k : Int) := by unfold lowK; split <;> omega
  have hle : lowK l k ≤ l.length := by unfold lowK; omega
  refine Ctr.enter Tryd.func20 Tryd.ntmps20 rfl rfl (fun w hr => ?_)
  have sv := hr.1
  repeat (first | refine C.seq ?_ | refine C.region ?_ | refine L.nil ?_ | refine D.seq ?_ | refine L.move (k := ?_) | refine L.assign (k := ?_) | refine L.lenR sv (c := ?_) | refine L.maxI (hz := hmx) (c := ?_) | refine L.minI (hz := hmn) (c := ?_) | (refine L.sliceR (sz := 1) (lo := 0) (hi := lowK l k) sv (Nat.zero_le _) hle (hy := .inl ⟨rfl, rfl⟩) (hz := .inr ⟨_, _, rfl, rfl⟩) (c := ?_); intro v' s' hb'))
  have r' : RdN w [] v' (l.take (lowK l k)) := by
    unfold RdN
    rw [List.length_take, Nat.min_eq_left hle]
    exact Rd.sub (lo := 0) (hi := lowK l k) (sz := 1) hr hle s' hb' (fun i u hu => by
      rw [u64s_take] at hu
      rw [Nat.zero_mul, Nat.zero_add]
      exact take_get hu)
  refine L.callP [] (hT v') (hpre := fun w hw => r'.at hw) (k := ?_)
  rintro u B ⟨y, hG, rfl, rfl⟩
  rw [hdrop_nil]
  repeat (first | refine L.nil ?_ | refine D.seq ?_ | refine L.assign (k := ?_) | refine C.ret ?_)
  refine D.ret (vs := [osV (can (lv (l.take (lowK l k)))).length y]) (RV.tmp rfl RV.nil) ?_
  intro w' hw
  exact Post.mkD 0 hw (by simp) ⟨y, hG, rfl, rfl⟩
theorem bit_at {l : List Nat} (ho : okL l) (n : Nat) : ((lmb l (n / 64) / 2 ^ (n % 64)) &&& 1 : Nat) = ((lv l).testBit n).toNat := by
  rw [lv_bit ho, Nat.testBit_eq_decide_div_mod_eq, Nat.and_one_is_mod]
  have : lmb l (n / 64) / 2 ^ (n % 64) % 2 < 2 := Nat.mod_lt _ (by omega)
  rcases (by omega : lmb l (n / 64) / 2 ^ (n % 64) % 2 = 0 ∨ lmb l (n / 64) / 2 ^ (n % 64) % 2 = 1) with h | h <;> rw [h] <;> rfl
theorem bit_S (l : List Nat) (hl : nt l) (v : Value) (i : Int) (hi : I64' i) : Ctr Tryd.prog 23 [v, .int .i64 i] [] (fun w => RdN w [] v l) (is (.bool (decide (0 ≤ i) && (lv l).testBit i.toNat)) []) := by
  refine Ctr.enter Tryd.func23 Tryd.ntmps23 rfl rfl (fun w hr => ?_)
  have sv := hr.1
  have hi2 := hi.2
  by_cases h0 : 0 ≤ i
  · obtain ⟨n, rfl⟩ := Int.eq_ofNat_of_zero_le h0
    rw [decide_eq_true h0, Bool.true_and, Int.toNat_natCast]
    have c1 : cm .geq (n : Int) 0 = true := cm_ge (by omega)
    have c2 : ar .quo .i64 (n : Int) 64 = ((n / 64 : Nat) : Int) := i64_quo (b := 64) (by omega)
    by_cases hlt : n / 64 < l.length
    · have c3 : cm .lss ((n / 64 : Nat) : Int) l.length = true := cm_lo (by omega)
      have c4 : ar .rem .i64 (n : Int) 64 = ((n % 64 : Nat) : Int) := i64_rem (b := 64)
      have hk : arOk .shr .u64 .i64 ((n % 64 : Nat) : Int) = true := decide_eq_true (p := (0 : Int) ≤ ((n % 64 : Nat) : Int)) (by omega)
      have hx := lmb_lt hl.1 (n / 64)
      have c5 : ar .shr .u64 (lmb l (n / 64) : Int) ((n % 64 : Nat) : Int) = ((lmb l (n / 64) / 2 ^ (n % 64) : Nat) : Int) := ar_shrN _ _ (by omega)
      have c6 : ar .and .u64 ((lmb l (n / 64) / 2 ^ (n % 64) : Nat) : Int) 1 = (((lv l).testBit n).toNat : Int) := by
        rw [← bit_at hl.1 n]
        exact ar_andN _ 1 (Nat.lt_of_le_of_lt (Nat.div_le_self _ _) hx) (by omega)
      have c7 : cm .eql (((lv l).testBit n).toNat : Int) 1 = (lv l).testBit n := by cases (lv l).testBit n <;> rfl
      have o0 := hr.2 (by omega)
      have kx := u64s_get (get_lmb hlt)
      repeat (first | refine L.ar (op := .shr) (ho := hk) (hz := c5) (c := ?_) | refine C.seq ?_ | refine C.region ?_ | refine L.nil ?_ | refine D.seq ?_ | refine L.move (k := ?_) | refine L.assign (k := ?_) | refine L.cm (c := ?_) | refine L.ar (c := ?_) | refine L.pickT (k := ?_) | refine L.want (k := ?_) | refine C.ret ?_ | refine L.lenR sv (c := ?_) | refine L.indexR sv hlt (c := ?_) | refine L.loadF o0 kx (ho := by simp) (c := ?_))
      (refine D.ret (vs := [_]) (RV.tmp rfl RV.nil) ?_; intro w' hw; exact Post.mk (is := []) hw List.nodup_nil rfl ⟨rfl, rfl⟩)
    · have c3 : cm .lss ((n / 64 : Nat) : Int) l.length = false := cm_lo' (by omega)
      have hb : (lv l).testBit n = false := by rw [lv_bit hl.1, lmb_out (by omega)]; exact Nat.zero_testBit _
      rw [hb]
      repeat (first | refine C.seq ?_ | refine C.region ?_ | refine L.nil ?_ | refine D.seq ?_ | refine L.move (k := ?_) | refine L.assign (k := ?_) | refine L.cm (c := ?_) | refine L.ar (c := ?_) | refine L.pickT (k := ?_) | refine L.pickF (k := ?_) | refine L.want (k := ?_) | refine L.pass (k := ?_) | refine C.ret ?_ | refine L.lenR sv (c := ?_))
      (refine D.ret (vs := [_]) (RV.tmp rfl RV.nil) ?_; intro w' hw; exact Post.mk (is := []) hw List.nodup_nil rfl ⟨rfl, rfl⟩)
  · have c1 : cm .geq i 0 = false := cm_ge' (by omega)
    rw [decide_eq_false h0, Bool.false_and]
    repeat (first | refine C.seq ?_ | refine C.region ?_ | refine L.nil ?_ | refine D.seq ?_ | refine L.move (k := ?_) | refine L.assign (k := ?_) | refine L.cm (c := ?_) | refine L.pickF (k := ?_) | refine L.pass (k := ?_) | refine C.ret ?_)
    (refine D.ret (vs := [_]) (RV.tmp rfl RV.nil) ?_; intro w' hw; exact Post.mk (is := []) hw List.nodup_nil rfl ⟨rfl, rfl⟩)
/-- Limbs and an error, handed back. -/
def rowE (l : List Nat) (e : Int) : Value → Hp → Prop := fun v B => ∃ y, osG 1 l.length (u64s l) y ∧ v = shut [osV l.length y, .int .i64 e] ∧ B = osC 34 y []
def fitL (n : Nat) (k : Int) : List Nat × Int := if k < 0 ∨ 512 < k then ([], 2) else if k < (can n).length then ([], 3) else (can n ++ List.replicate (k.toNat - (can n).length) 0, 0)
theorem fit_S (l : List Nat) (hl : nt l) (v : Value) (k : Int) (hk : I64' k) : Ctr Tryd.prog 21 [v, .int .i64 k] [] (fun w => RdN w [] v l) (rowE (fitL (lv l) k).1 (fitL (lv l) k).2) := by
  refine Ctr.enter Tryd.func21 Tryd.ntmps21 rfl rfl (fun w hr => ?_)
  have hT := trim_S l hl.1 (by have := hl.2; omega) v
  by_cases h1 : k < 0
  · have c1 : cm .lss k 0 = true := cm_lo h1
    have e : fitL (lv l) k = ([], 2) := by unfold fitL; rw [if_pos (.inl h1)]
    rw [e]
    repeat (first | refine C.seq ?_ | refine C.region ?_ | refine L.nil ?_ | refine D.seq ?_ | refine L.move (k := ?_) | refine L.assign (k := ?_) | refine L.cm (c := ?_) | refine C.yes (h1 := ?_) | refine L.pickT (k := ?_) | refine L.pass (k := ?_) | refine C.ret ?_ | refine D.thenRet ?_)
    exact D.ret (vs := [osV 0 none, .int .i64 2]) (RV.tmp rfl (RV.tmp rfl RV.nil)) (fun w' hw => Post.mk (is := []) hw List.nodup_nil rfl ⟨none, osG.nil, rfl, rfl⟩)
  have c1 : cm .lss k 0 = false := cm_lo' (by omega)
  by_cases h2 : 512 < k
  · have c2 : cm .gtr k 512 = true := cm_gt h2
    have e : fitL (lv l) k = ([], 2) := by unfold fitL; rw [if_pos (.inr h2)]
    rw [e]
    repeat (first | refine C.seq ?_ | refine C.region ?_ | refine L.nil ?_ | refine D.seq ?_ | refine L.move (k := ?_) | refine L.assign (k := ?_) | refine L.cm (c := ?_) | refine C.yes (h1 := ?_) | refine L.pickF (k := ?_) | refine L.want (k := ?_) | refine C.ret ?_ | refine D.thenRet ?_)
    exact D.ret (vs := [osV 0 none, .int .i64 2]) (RV.tmp rfl (RV.tmp rfl RV.nil)) (fun w' hw => Post.mk (is := []) hw List.nodup_nil rfl ⟨none, osG.nil, rfl, rfl⟩)
  have c2 : cm .gtr k 512 = false := cm_gt' (by omega)
  obtain ⟨m, rfl⟩ := Int.eq_ofNat_of_zero_le (show 0 ≤ k by omega)
  repeat (first | refine C.seq ?_ | refine C.region ?_ | refine L.nil ?_ | refine D.seq ?_ | refine L.move (k := ?_) | refine L.assign (k := ?_) | refine L.cm (c := ?_) | refine C.no (h1 := ?_) | refine L.pickF (k := ?_) | refine L.want (k := ?_) | refine C.skip ?_)
  refine L.callP [] hT (hpre := fun w hw => hr.at hw) (k := ?_)
  rintro u B ⟨y, hG, rfl, rfl⟩
  rw [hdrop_nil]
  have sy := hG.sl
  by_cases h3 : m < (can (lv l)).length
  · have c3 : cm .gtr ((can (lv l)).length : Int) (m : Int) = true := cm_gt (by omega)
    have e : fitL (lv l) (m : Int) = ([], 3) := by unfold fitL; rw [if_neg (by omega), if_pos (by omega)]
    rw [e]
    repeat (first | refine C.seq ?_ | refine C.region ?_ | refine L.nil ?_ | refine D.seq ?_ | refine L.move (k := ?_) | refine L.assign (k := ?_) | refine L.cm (c := ?_) | refine C.yes (h1 := ?_) | refine C.ret ?_ | refine D.thenRet ?_ | refine L.lenR sy (c := ?_))
    exact D.ret (vs := [osV 0 none, .int .i64 3]) (RV.tmp rfl (RV.tmp rfl RV.nil)) (fun w' hw => Post.mk (is := []) hw List.nodup_nil rfl ⟨none, osG.nil, rfl, rfl⟩)
  · have c3 : cm .gtr ((can (lv l)).length : Int) (m : Int) = false := cm_gt' (by omega)
    have e : fitL (lv l) (m : Int) = (can (lv l) ++ List.replicate (m - (can (lv l)).length) 0, 0) := by unfold fitL; rw [if_neg (by omega), if_neg (by omega), Int.toNat_natCast]
    rw [e]
    have c4 : ar .sub .i64 (m : Int) ((can (lv l)).length : Int) = ((m - (can (lv l)).length : Nat) : Int) := i64_sub (by omega) (by omega)
    repeat (first | refine C.seq ?_ | refine C.region ?_ | refine L.nil ?_ | refine D.seq ?_ | refine L.move (k := ?_) | refine L.assign (k := ?_) | refine L.cm (c := ?_) | refine L.ar (c := ?_) | refine C.no (h1 := ?_) | refine C.skip ?_ | refine L.lenR sy (c := ?_))
    refine L.appendZ [] (L2 := []) (y := y) (m := (can (lv l)).length) (k := m - (can (lv l)).length) hG (by simp) rfl (by omega) (by omega) (c := fun y' hG' _ => ?_)
    simp only [List.nil_append]
    repeat (first | refine L.nil ?_ | refine L.assign (k := ?_) | refine C.ret ?_ | refine D.seqR (h := ?_))
    have hG2 : osG 1 (can (lv l) ++ List.replicate (m - (can (lv l)).length) 0).length (u64s (can (lv l) ++ List.replicate (m - (can (lv l)).length) 0)) y' := by
      rw [u64s_app, ← u64s_zero, List.length_append, List.length_replicate]; exact hG'
    refine D.ret (vs := [osV (can (lv l) ++ List.replicate (m - (can (lv l)).length) 0).length y', .int .i64 0]) (RV.tmp (by rw [List.length_append, List.length_replicate]; rfl) (RV.tmp rfl RV.nil)) ?_
    intro w' hw
    exact Post.mkD 0 hw rfl ⟨y', hG2, rfl, rfl⟩
end Go.Proofs.YtpemoeincepilaaDoor.Nt
