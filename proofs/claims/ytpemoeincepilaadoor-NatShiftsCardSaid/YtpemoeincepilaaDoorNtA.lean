/- nat: words' functions, (row).trim, Trim, Bits, Low, Bit, Fit: what they answer, told by numbers. -/
import Derived.Test.YtpemoeincepilaaDoorNtW
import Derived.Test.YtpemoeincepilaaDoorNtL
import Derived.Test.YtpemoeincepilaaDoorSepF
import Derived.Test.YtpemoeincepilaaDoorSepA2
import Derived.Test.YtpemoeincepilaaDoorSepGZ
import Derived.Test.YtpemoeincepilaaDoorSepTl
import Derived.Test.YtpemoeincepilaaDoorSepU
import Derived.Test.YtpemoeincepilaaDoorSepY
import Derived.Test.YtpemoeincepilaaDoorFin
import Derived.Test.YtpemoeincepilaaDoorCmp
set_option linter.unusedVariables false
set_option linter.unusedSimpArgs false
namespace Go.Proofs.YtpemoeincepilaaDoor.Nt
open Go Go.RowKit SL
attribute [local irreducible] SL.L SL.C SL.D SL.N SL.H SL.QL SL.QW SL.QP

def is2 (v u : Value) : Value → Hp → Prop := fun x B => x = shut [v, u] ∧ B = []
def u64 (x : Nat) : Value := .int .u64 (x : Int)
def u64s (l : List Nat) : List Value := l.map u64
theorem u64s_len (l : List Nat) : (u64s l).length = l.length := by unfold u64s; simp
theorem u64s_get {l : List Nat} {i x : Nat} (h : l[i]? = some x) : (u64s l)[i]? = some (.int .u64 (x : Int)) := by unfold u64s; rw [List.getElem?_map, h]; rfl
theorem u64s_app (a b : List Nat) : u64s (a ++ b) = u64s a ++ u64s b := by unfold u64s; simp
theorem u64s_take (l : List Nat) (n : Nat) : u64s (l.take n) = (u64s l).take n := by unfold u64s; simp
theorem u64s_ones (l : List Nat) : ones (u64s l) := by
  intro v hv
  obtain ⟨x, _, rfl⟩ := List.mem_map.1 hv
  rfl
/-- A slice of words that reads. -/
def RdN (w : World) (A : List Nat) (v : Value) (l : List Nat) : Prop := Rd w A v l.length (u64s l)
/-- An own slice that is handed back: the trimmed limbs of a number. -/
def natR (n : Nat) : Value → Hp → Prop := fun v B => ∃ y, osG 1 (can n).length (u64s (can n)) y ∧ v = shut [osV (can n).length y] ∧ B = osC 34 y []
theorem get_lmb {l : List Nat} {i : Nat} (h : i < l.length) : l[i]? = some (lmb l i) := by rw [lmb_get (List.getElem?_eq_getElem h)]; exact List.getElem?_eq_getElem h
theorem i64_add {a b : Nat} (h : a + b ≤ 2000000) : ar .add .i64 (a : Int) (b : Int) = ((a + b : Nat) : Int) := wrap_nat (by omega)
theorem i64_sub {a b : Nat} (h : b ≤ a) (h2 : a ≤ 2000000) : ar .sub .i64 (a : Int) (b : Int) = ((a - b : Nat) : Int) := by
  show IntKind.i64.wrap _ = _
  rw [show (a : Int) - b = ((a - b : Nat) : Int) by omega]; exact wrap_nat (by omega)

theorem wadd_S (a b : Int) (c : Bool) : Ctr Tryd.prog 53 [.int .u64 a, .int .u64 b, .bool c] [] tt (is2 (.int .u64 (addM a b c).1) (.bool (addM a b c).2)) := by
  refine Ctr.enter Tryd.func53 Tryd.ntmps53 rfl rfl (fun w _ => ?_)
  cases c
  all_goals (repeat' (first | refine C.seq ?_ | refine C.region ?_ | refine L.nil ?_ | refine D.seq ?_ | refine L.move (k := ?_) | refine L.assign (k := ?_) | refine L.cm (c := ?_) | refine L.ar (c := ?_) | refine C.yes (h1 := ?_) | refine C.no (h1 := ?_) | refine L.pickT (k := ?_) | refine L.pickF (k := ?_) | refine L.want (k := ?_) | refine L.pass (k := ?_) | refine C.ret ?_ | refine C.skip ?_ | exact D.endsG | (refine L.orB 2 (b2 := ?_) (h1 := fun hb => ?_) (h2 := fun hb => ?_) (k := ?_); rotate_left)))
  all_goals (refine D.ret (vs := [_, _]) (RV.tmp rfl (RV.tmp rfl RV.nil)) ?_; intro w' hw; exact Post.mk (is := []) hw List.nodup_nil rfl ⟨rfl, rfl⟩)
theorem wsub_S (a b : Int) (c : Bool) : Ctr Tryd.prog 55 [.int .u64 a, .int .u64 b, .bool c] [] tt (is2 (.int .u64 (subM a b c).1) (.bool (subM a b c).2)) := by
  refine Ctr.enter Tryd.func55 Tryd.ntmps55 rfl rfl (fun w _ => ?_)
  cases c
  all_goals (repeat' (first | refine C.seq ?_ | refine C.region ?_ | refine L.nil ?_ | refine D.seq ?_ | refine L.move (k := ?_) | refine L.assign (k := ?_) | refine L.cm (c := ?_) | refine L.ar (c := ?_) | refine C.yes (h1 := ?_) | refine C.no (h1 := ?_) | refine L.pickT (k := ?_) | refine L.pickF (k := ?_) | refine L.want (k := ?_) | refine L.pass (k := ?_) | refine C.ret ?_ | refine C.skip ?_ | exact D.endsG | (refine L.orB 2 (b2 := ?_) (h1 := fun hb => ?_) (h2 := fun hb => ?_) (k := ?_); rotate_left)))
  all_goals (refine D.ret (vs := [_, _]) (RV.tmp rfl (RV.tmp rfl RV.nil)) ?_; intro w' hw; exact Post.mk (is := []) hw List.nodup_nil rfl ⟨rfl, rfl⟩)
theorem wmul_S (a b : Int) : Ctr Tryd.prog 52 [.int .u64 a, .int .u64 b] [] tt (is2 (.int .u64 (mulM a b).1) (.int .u64 (mulM a b).2)) := by
  refine Ctr.enter Tryd.func52 Tryd.ntmps52 rfl rfl (fun w _ => ?_)
  repeat' (first | refine C.seq ?_ | refine C.region ?_ | refine L.nil ?_ | refine D.seq ?_ | refine L.move (k := ?_) | refine L.assign (k := ?_) | refine L.ar (c := ?_) | refine C.ret ?_)
  (refine D.ret (vs := [_, _]) (RV.tmp rfl (RV.tmp rfl RV.nil)) ?_; intro w' hw; exact Post.mk (is := []) hw List.nodup_nil rfl ⟨rfl, rfl⟩)
/-- word.Bits: one step of the loop. -/
def bstep (p : Nat × Nat) (k : Nat) : Nat × Nat := if p.2 / 2 ^ k ≠ 0 then (p.1 + k, p.2 / 2 ^ k) else p
theorem bstep_ok {p : Nat × Nat} {k N : Nat} (h1 : p.1 + bitsN p.2 = N) (h2 : p.2 < 2 ^ (2 * k)) : (bstep p k).1 + bitsN (bstep p k).2 = N ∧ (bstep p k).2 < 2 ^ k := by
  unfold bstep
  by_cases h : p.2 / 2 ^ k ≠ 0
  · rw [if_pos h]
    have := bits_shr h
    refine ⟨by simp only; omega, ?_⟩
    simp only
    rw [Nat.div_lt_iff_lt_mul (Nat.two_pow_pos k), ← Nat.pow_add]
    rw [show k + k = 2 * k by omega]; exact h2
  · rw [if_neg h]
    refine ⟨h1, ?_⟩
    have h3 : p.2 / 2 ^ k = 0 := by omega
    exact (Nat.div_eq_zero_iff_lt (Nat.two_pow_pos k)).1 h3
theorem wbits_S (a : Nat) (ha : a < 18446744073709551616) : Ctr Tryd.prog 51 [.int .u64 (a : Int)] [] tt (is (.int .i64 (bitsN a : Int)) []) := by
  refine Ctr.enter Tryd.func51 Tryd.ntmps51 rfl rfl (fun w _ => ?_)
  repeat (first | refine C.seq ?_ | refine C.region ?_ | refine L.nil ?_ | refine D.seq ?_ | refine L.assign (k := ?_) | refine C.block ?_)
  -- the steps: 2 to the j-1, from j = 6 on
  refine C.loop (α := Nat × Nat × Nat) (fun g => g.1 ≤ 6 ∧ g.2.1 + bitsN g.2.2 = bitsN a ∧ g.2.2 < 2 ^ (2 ^ g.1) ∧ g.2.1 ≤ 1000) (fun g => [(0, .int .u64 (g.2.2 : Int)), (3, .int .i64 (g.2.1 : Int)), (4, .int .i64 ((2 ^ g.1 / 2 : Nat) : Int))]) (fun _ => []) (fun g => g.1) (6, 0, a)
    (fun a w hs => hs.lessE rfl (lk_cons rfl (lk_cons rfl (lk_cons (by show lk _ 4 = some (.int .i64 ((2 ^ 6 / 2 : Nat) : Int)); rw [show ((2 ^ 6 / 2 : Nat) : Int) = 32 from by decide]; rfl) (fun _ _ h => lk_nil h))))) ⟨Nat.le_refl _, by simp, ha, by simp⟩ ?_
  rintro ⟨j, n, x⟩ ⟨hj, h1, h2, h3⟩
  simp only at hj h1 h2 h3
  dsimp only
  rcases Nat.eq_zero_or_pos j with rfl | hj0
  · have c1 : cm .gtr ((2 ^ 0 / 2 : Nat) : Int) 0 = false := rfl
    have hx : x < 2 := h2
    have hb : bitsN x = x := bitsN_small hx
    have c2 : IntKind.i64.wrap (x : Int) = x := wrap_nat (by omega)
    have c3 : ar .add .i64 (n : Int) (x : Int) = (bitsN a : Int) := by rw [i64_add (by omega)]; omega
    repeat (first | refine C.seq ?_ | refine C.region ?_ | refine L.nil ?_ | refine D.seq ?_ | refine L.move (k := ?_) | refine L.assign (k := ?_) | refine L.cm (c := ?_) | refine L.ar (c := ?_) | refine C.no (h1 := ?_) | refine C.ret ?_ | refine C.exit ?_ | refine D.thenExit ?_ | refine D.blkExit ?_ | refine L.convI (c := ?_) | refine D.seqR (h := ?_))
    (refine D.ret (vs := [_]) (RV.tmp rfl RV.nil) ?_; intro w' hw; exact Post.mk (is := []) hw List.nodup_nil rfl ⟨by rw [c2, c3]; rfl, rfl⟩)
  · obtain ⟨i, rfl⟩ : ∃ i, j = i + 1 := ⟨j - 1, by omega⟩
    have e : 2 ^ (i + 1) / 2 = 2 ^ i := by rw [Nat.pow_succ]; omega
    have hi6 : 2 ^ i ≤ 2 ^ 5 := Nat.pow_le_pow_right (by omega) (by omega)
    have hi1 := Nat.two_pow_pos i
    rw [e]
    have c1 : cm .gtr ((2 ^ i : Nat) : Int) 0 = true := cm_gt (by omega)
    have c2 : ar .shr .u64 (x : Int) ((2 ^ i : Nat) : Int) = ((x / 2 ^ 2 ^ i : Nat) : Int) := ar_shrN x _ (by omega)
    have c4 : ar .shr .i64 ((2 ^ i : Nat) : Int) 1 = ((2 ^ i / 2 : Nat) : Int) := by
      show ((2 ^ i : Nat) : Int).fdiv (2 ^ (min (1 : Int).toNat 64)) = _
      exact Int.ofNat_fdiv (2 ^ i) 2 |>.symm
    have hk : arOk .shr .u64 .i64 ((2 ^ i : Nat) : Int) = true := decide_eq_true (p := (0 : Int) ≤ ((2 ^ i : Nat) : Int)) (Int.natCast_nonneg (2 ^ i))
    obtain ⟨s1, s2⟩ := bstep_ok (p := (n, x)) (k := 2 ^ i) h1 (by rw [show 2 * 2 ^ i = 2 ^ (i + 1) by rw [Nat.pow_succ]; omega]; exact h2)
    unfold bstep at s1 s2
    by_cases h0 : x / 2 ^ 2 ^ i ≠ 0
    · rw [if_pos h0] at s1 s2
      simp only at s1 s2
      have c3 : cm .neq ((x / 2 ^ 2 ^ i : Nat) : Int) 0 = true := cm_ne (by omega)
      have hn : n + 2 ^ i ≤ 1000 := by
        have := bitsN_iff.2 (show a < 2 ^ 64 from ha)
        omega
      have c5 : ar .add .i64 (n : Int) ((2 ^ i : Nat) : Int) = ((n + 2 ^ i : Nat) : Int) := i64_add (by omega)
      repeat' (first | refine L.ar (op := .shr) (ho := hk) (hz := c2) (c := ?_) | refine C.seq ?_ | refine C.region ?_ | refine L.nil ?_ | refine D.seq ?_ | refine L.move (k := ?_) | refine L.assign (k := ?_) | refine L.cm (c := ?_) | refine L.ar (c := ?_) | refine C.yes (h1 := ?_) | refine C.block ?_ | refine D.blkNormal ?_ | refine C.skip ?_ | exact D.endsQ | refine QL.fin ?_ | (refine QL.step (v := ?_) (by exact rfl) (by exact rfl) ?_ ?_; rotate_left) | refine C.quietA (h := ?_))
      exact D.then_ fun a1 w1 hs => ⟨(i, n + 2 ^ i, x / 2 ^ 2 ^ i), ⟨by omega, s1, s2, hn⟩, by simp only; omega, hs.lessE rfl (lk_cons rfl (lk_cons rfl (lk_cons rfl (fun _ _ h => lk_nil h))))⟩
    · rw [if_neg h0] at s1 s2
      simp only at s1 s2
      have c3 : cm .neq ((x / 2 ^ 2 ^ i : Nat) : Int) 0 = false := cm_ne' (by omega)
      repeat' (first | refine L.ar (op := .shr) (ho := hk) (hz := c2) (c := ?_) | refine C.seq ?_ | refine C.region ?_ | refine L.nil ?_ | refine D.seq ?_ | refine L.move (k := ?_) | refine L.assign (k := ?_) | refine L.cm (c := ?_) | refine L.ar (c := ?_) | refine C.yes (h1 := ?_) | refine C.no (h1 := ?_) | refine C.block ?_ | refine D.blkNormal ?_ | refine C.skip ?_)
      exact D.then_ fun a1 w1 hs => ⟨(i, n, x), ⟨by omega, s1, s2, h3⟩, by simp only; omega, hs.lessE rfl (lk_cons rfl (lk_cons rfl (lk_cons rfl (fun _ _ h => lk_nil h))))⟩
/-- (row).trim: a part of what came in. -/
theorem rtrim_S (l : List Nat) (ho : okL l) (hl : l.length ≤ 1000000) (v : Value) : Ctr Tryd.prog 49 [v] [] (fun w => RdN w [] v l)
    (fun u B => ∃ v', u = shut [v'] ∧ B = [] ∧ SlV v' (can (lv l)).length ∧ (0 < (can (lv l)).length → sB v' = sB v ∧ sO v' = sO v)) := by
  refine Ctr.enter Tryd.func49 Tryd.ntmps49 rfl rfl (fun w hr => ?_)
  have sv := hr.1
  repeat (first | refine C.seq ?_ | refine C.region ?_ | refine L.nil ?_ | refine D.seq ?_ | refine L.assign (k := ?_) | refine C.block ?_)
  refine C.loop (α := Nat × Value) (fun g => g.1 ≤ l.length ∧ SlV g.2 g.1 ∧ (0 < g.1 → sB g.2 = sB v ∧ sO g.2 = sO v) ∧ ∀ x ∈ l.drop g.1, x = 0) (fun g => [(0, g.2)]) (fun _ => []) (fun g => g.1) (l.length, v)
    (fun a w hs => hs.lessE rfl (lk_cons rfl (fun _ _ h => lk_nil h))) ⟨Nat.le_refl _, sv, fun _ => ⟨rfl, rfl⟩, by simp⟩ ?_
  rintro ⟨n, u⟩ ⟨hn, su, hb, h0⟩
  simp only at hn su hb h0
  dsimp only
  have fin : ∀ (h1 : n = 0 ∨ ∃ x, l[n - 1]? = some x ∧ x ≠ 0), SlV u (can (lv l)).length ∧ (0 < (can (lv l)).length → sB u = sB v ∧ sO u = sO v) := by
    intro h1
    have e := congrArg List.length (take_can ho hn h0 h1)
    rw [List.length_take, Nat.min_eq_left hn] at e
    rw [← e]; exact ⟨su, hb⟩
  rcases Nat.eq_zero_or_pos n with rfl | hp
  · have c1 : cm .gtr ((0 : Nat) : Int) 0 = false := rfl
    repeat' (first | refine C.seq ?_ | refine C.region ?_ | refine L.nil ?_ | refine D.seq ?_ | refine L.move (k := ?_) | refine L.assign (k := ?_) | refine L.cm (c := ?_) | refine C.no (h1 := ?_) | refine L.pickF (k := ?_) | refine L.pass (k := ?_) | refine C.ret ?_ | refine C.exit ?_ | refine D.thenExit ?_ | refine D.blkExit ?_ | refine D.seqR (h := ?_) | refine L.lenR su (c := ?_))
    refine D.ret (vs := [_]) (RV.tmp rfl RV.nil) ?_
    intro w' hw
    exact Post.mk (is := []) hw List.nodup_nil rfl ⟨u, rfl, rfl, fin (.inl rfl)⟩
  · obtain ⟨m, rfl⟩ : ∃ m, n = m + 1 := ⟨n - 1, by omega⟩
    have c1 : cm .gtr ((m + 1 : Nat) : Int) 0 = true := cm_gt (by omega)
    have c2 : ar .sub .i64 ((m + 1 : Nat) : Int) 1 = (m : Int) := by
      show IntKind.i64.wrap _ = _
      rw [show ((m + 1 : Nat) : Int) - 1 = (m : Int) by omega]; exact wrap_nat (by omega)
    have hx := get_lmb (l := l) (i := m) (by omega)
    have o0 := hr.2 (by omega)
    obtain ⟨b1, b2⟩ := hb (by omega)
    rw [← b1, ← b2] at o0
    have hg := u64s_get hx
    by_cases hz : lmb l m = 0
    · have c3 : cm .eql (lmb l m : Int) 0 = true := cm_yes (by omega)
      repeat' (first | refine C.seq ?_ | refine C.region ?_ | refine L.nil ?_ | refine D.seq ?_ | refine L.move (k := ?_) | refine L.assign (k := ?_) | refine L.cm (c := ?_) | refine L.ar (c := ?_) | refine C.yes (h1 := ?_) | refine L.pickT (k := ?_) | refine L.want (k := ?_) | refine C.block ?_ | refine D.blkNormal ?_ | refine C.skip ?_ | refine L.lenR su (c := ?_) | refine L.indexR su (Nat.lt_succ_self m) (c := ?_) | refine L.loadF o0 hg (ho := by simp) (c := ?_) | (refine L.sliceR (sz := 1) (lo := 0) (hi := m) su (Nat.zero_le _) (Nat.le_succ _) (hy := .inl ⟨rfl, rfl⟩) (hz := .inr ⟨_, _, rfl, rfl⟩) (c := ?_); intro u' su' hb'))
      refine D.then_ fun a1 w1 hs => ⟨(m, u'), ⟨by simp only; omega, by simpa using su', fun hm => ?_, fun x hx2 => ?_⟩, by simp only; omega, hs.lessE rfl (lk_cons rfl (fun _ _ h => lk_nil h))⟩
      · obtain ⟨q1, q2⟩ := hb' hm
        exact ⟨q1.trans b1, by rw [q2, b2]; simp⟩
      · rw [List.drop_eq_getElem_cons (by omega)] at hx2
        rcases List.mem_cons.1 hx2 with rfl | hx2
        · exact (List.getElem?_eq_some_iff.1 hx).2.trans hz
        · exact h0 x hx2
    · have c3 : cm .eql (lmb l m : Int) 0 = false := cm_no (by omega)
      repeat' (first | refine C.seq ?_ | refine C.region ?_ | refine L.nil ?_ | refine D.seq ?_ | refine L.move (k := ?_) | refine L.assign (k := ?_) | refine L.cm (c := ?_) | refine L.ar (c := ?_) | refine C.no (h1 := ?_) | refine L.pickT (k := ?_) | refine L.want (k := ?_) | refine C.ret ?_ | refine C.exit ?_ | refine D.thenExit ?_ | refine D.blkExit ?_ | refine D.seqR (h := ?_) | refine L.lenR su (c := ?_) | refine L.indexR su (Nat.lt_succ_self m) (c := ?_) | refine L.loadF o0 hg (ho := by simp) (c := ?_))
      refine D.ret (vs := [_]) (RV.tmp rfl RV.nil) ?_
      intro w' hw
      exact Post.mk (is := []) hw List.nodup_nil rfl ⟨u, rfl, rfl, fin (.inr ⟨_, by simpa using hx, hz⟩)⟩
theorem trim_at {l : List Nat} (ho : okL l) : ∃ n, n ≤ l.length ∧ l.take n = can (lv l) := by
  have key : ∀ k, k ≤ l.length → (∀ x ∈ l.drop k, x = 0) → ∃ n, n ≤ l.length ∧ l.take n = can (lv l) := by
    intro k
    induction k with
    | zero => intro _ h; exact ⟨0, Nat.zero_le _, take_can ho (Nat.zero_le _) h (.inl rfl)⟩
    | succ k ih =>
      intro hk h
      have hx := get_lmb (l := l) (i := k) (by omega)
      by_cases hz : lmb l k = 0
      · refine ih (by omega) (fun x hx2 => ?_)
        rw [List.drop_eq_getElem_cons (by omega)] at hx2
        rcases List.mem_cons.1 hx2 with rfl | hx2
        · exact (List.getElem?_eq_some_iff.1 hx).2.trans hz
        · exact h x hx2
      · exact ⟨k + 1, hk, take_can ho hk h (.inr ⟨_, by simpa using hx, hz⟩)⟩
  exact key l.length (Nat.le_refl _) (by simp)
theorem take_get {α : Type} {l : List α} {n i : Nat} {u : α} (h : (l.take n)[i]? = some u) : l[i]? = some u := by
  rw [List.getElem?_take] at h
  split at h
  · exact h
  · cases h
/-- Trim. -/
theorem trim_S (l : List Nat) (ho : okL l) (hl : l.length ≤ 1000000) (v : Value) : Ctr Tryd.prog 22 [v] [] (fun w => RdN w [] v l) (natR (lv l)) := by
  have hT := rtrim_S l ho hl v
  have hle : (can (lv l)).length ≤ l.length := can_len.2 (lv_lt ho)
  have f1 : 0 + (can (lv l)).length ≤ maxLen := by unfold maxLen; omega
  refine Ctr.enter Tryd.func22 Tryd.ntmps22 rfl rfl (fun w hr => ?_)
  repeat (first | refine C.seq ?_ | refine C.region ?_ | refine L.nil ?_ | refine D.seq ?_ | refine L.assign (k := ?_))
  refine L.build0 (c := ?_)
  intro y0 hG0
  repeat (first | refine L.move (k := ?_))
  refine L.callP [] hT (hpre := fun w hw => hr.at hw) (k := ?_)
  rintro v' B ⟨v1, hu, rfl, s', hb'⟩
  obtain rfl : v' = v1 := hu
  rw [List.nil_append]
  have hcan : can (lv l) = l.take (can (lv l)).length := by
    rcases trim_at ho with ⟨n, hn, e⟩
    rw [← e, List.length_take, Nat.min_eq_left hn]
  have r' : ∀ w1, Rd w1 [] v l.length (u64s l) → Rd w1 [] v' (can (lv l)).length (u64s (can (lv l))) := fun w1 h1 => by
    refine (Rd.sub (lo := 0) (hi := (can (lv l)).length) (sz := 1) h1 hle (by simpa using s') (fun h => ?_) (fun i u hu => ?_))
    · obtain ⟨q1, q2⟩ := hb' h
      exact ⟨q1, by rw [q2]; simp⟩
    · rw [hcan, u64s_take] at hu
      rw [Nat.zero_mul, Nat.zero_add]
      exact take_get hu
  rw [hdrop_nil]
  refine L.appendT [] hG0 (by exact rfl) (fun w hw => r' _ (hr.at hw)) (by rw [u64s_len, Nat.mul_one]) (u64s_ones _) f1 (by omega) (c := ?_)
  intro y hG _
  rw [List.nil_append] at hG
  rw [List.nil_append]
  repeat (first | refine L.nil ?_ | refine D.seq ?_ | refine L.assign (k := ?_) | refine C.ret ?_)
  refine D.ret (vs := [osV (0 + (can (lv l)).length) y]) (RV.tmp rfl RV.nil) ?_
  intro w' hw
  rw [Nat.zero_add] at hG ⊢
  exact Post.mkD 0 hw rfl ⟨y, hG, rfl, rfl⟩
end Go.Proofs.YtpemoeincepilaaDoor.Nt
