/- The law ScanAlone: what a word alone tells, plain; Pick. -/
import Derived.Test.YtbcbldjnbibigaaSc21
import Derived.Test.YtbcbldjnbibigaaSepP
set_option linter.unusedVariables false
set_option linter.unusedSimpArgs false
namespace Go.Proofs.Ytbcbldjnbibigaa
open Go Go.RowKit SL
attribute [local irreducible] SL.L SL.C SL.D SL.N SL.H SL.QL SL.QW
/-- Pick. -/
def pickI (n m : Int) : Int := if m < 1 then 0 else n % m
theorem pick_S (n m : Int) (hn : -9223372036854775808 ≤ n ∧ n ≤ 9223372036854775807) (hm : -9223372036854775808 ≤ m ∧ m ≤ 9223372036854775807) : Ctr Try.prog 14 [.int .i64 n, .int .i64 m] [] tt (is (.int .i64 (pickI n m)) []) := by
  refine Ctr.enter Try.func14 Try.ntmps14 rfl rfl (fun w _ => ?_)
  unfold pickI
  by_cases h : m < 1
  · have c1 : cm .lss m 1 = true := cm_lo h
    rw [if_pos h]
    repeat (first | refine C.seq ?_ | refine C.region ?_ | refine L.nil ?_ | refine D.seq ?_ | refine L.move (k := ?_) | refine L.assign (k := ?_) | refine L.cm (c := ?_) | refine L.ar (c := ?_) | refine L.fieldAddr (c := ?_) | refine L.load1 0 (c := ?_) | refine L.load1 1 (c := ?_) | refine L.load1 2 (c := ?_) | refine L.load1 3 (c := ?_) | refine L.load1 4 (c := ?_) | refine L.loadA 0 (c := ?_) | refine L.loadA 1 (c := ?_) | refine L.loadA 2 (c := ?_) | refine L.loadA 3 (c := ?_) | refine L.loadA 4 (c := ?_) | refine L.storeV 0 (c := ?_) | refine L.storeV 1 (c := ?_) | refine L.storeV 2 (c := ?_) | refine L.storeV 3 (c := ?_) | refine L.storeV 4 (c := ?_) | refine L.extract (c := ?_) | refine L.build (c := ?_) | refine L.alloc (c := fun _ => ?_) | refine L.box (c := fun _ => ?_) | refine L.nilCheck (k := ?_) | refine C.yes (h1 := ?_) | refine C.no (h1 := ?_) | refine L.pickT (k := ?_) | refine L.pickF (k := ?_) | refine L.want (k := ?_) | refine L.pass (k := ?_) | refine L.not (c := ?_) | refine L.lenS (c := ?_) | refine L.strNe (c := ?_) | refine L.strEq (c := ?_) | refine L.lenV (c := ?_) | refine C.block ?_ | refine D.blkNormal ?_ | refine C.ret ?_ | refine D.thenRet ?_ | refine D.blkRet ?_ | refine C.exit ?_ | refine D.thenExit ?_ | refine D.blkExit ?_ | refine D.blkOther (h := ?_) | refine C.skip ?_ | refine L.convI (c := ?_) | refine L.makeMap (c := fun _ => ?_) | refine D.any ?_ | refine D.seqR (h := ?_) | refine L.eqA (c := ?_) | refine L.neA (c := ?_) | refine L.funNil (c := ?_) | refine L.eqB (c := ?_) | refine L.neB (c := ?_) | refine L.passU (k := ?_) | refine L.makeFunc (k := ?_) | refine L.buildS (c := fun _ => ?_) | exact D.endsQ | refine QL.fin ?_ | refine C.quiet (h := ?_) | refine N.fin (h := ?_) | refine L.assertY (c := ?_) | refine L.assertN (c := ?_) | refine N.one (i := 0) (h := ?_) | refine N.one (i := 1) (h := ?_) | refine N.one (i := 2) (h := ?_) | refine N.one (i := 3) (h := ?_) | refine N.one (i := 4) (h := ?_) | refine N.one (i := 5) (h := ?_) | refine N.one (i := 6) (h := ?_) | refine N.one (i := 7) (h := ?_) | refine N.one (i := 8) (h := ?_) | refine N.one (i := 9) (h := ?_) | refine N.one (i := 10) (h := ?_) | refine N.one (i := 11) (h := ?_) | (refine QL.step (v := ?_) (by exact rfl) (by exact rfl) ?_ ?_; rotate_left))
    refine D.ret (vs := [.int .i64 0]) (RV.tmp rfl RV.nil) ?_
    intro w' hw
    exact Post.mk (is := []) hw (by decide) rfl ⟨rfl, rfl⟩
  · have c1 : cm .lss m 1 = false := cm_lo' (by omega)
    have c0 : arOk .rem .i64 .i64 m = true := by show (IntKind.i64 == IntKind.i64 && m != 0) = true; simp; omega
    rw [if_neg h]
    by_cases h2 : n.tmod m < 0
    · have c2 : cm .lss (n.tmod m) 0 = true := cm_lo h2
      have c3 : ar .rem .i64 n m = n.tmod m := rfl
      have hlo := Int.tmod_lt_of_pos n (show 0 < m by omega)
      have c4 : ar .add .i64 (n.tmod m) m = n % m := by
        have h1 := Int.tmod_eq_emod (a := n) (b := m)
        have h3 := Int.emod_nonneg n (show m ≠ 0 by omega)
        have h4 := Int.emod_lt_of_pos n (show 0 < m by omega)
        have e : n.tmod m + m = n % m := by split at h1 <;> omega
        show IntKind.i64.wrap (n.tmod m + m) = _
        rw [e]
        simp only [IntKind.wrap, IntKind.bits, IntKind.signed]
        simp
        split <;> omega
      repeat (first | refine C.seq ?_ | refine C.region ?_ | refine L.nil ?_ | refine D.seq ?_ | refine L.move (k := ?_) | refine L.assign (k := ?_) | refine L.cm (c := ?_) | refine L.ar (c := ?_) | refine L.fieldAddr (c := ?_) | refine L.load1 0 (c := ?_) | refine L.load1 1 (c := ?_) | refine L.load1 2 (c := ?_) | refine L.load1 3 (c := ?_) | refine L.load1 4 (c := ?_) | refine L.loadA 0 (c := ?_) | refine L.loadA 1 (c := ?_) | refine L.loadA 2 (c := ?_) | refine L.loadA 3 (c := ?_) | refine L.loadA 4 (c := ?_) | refine L.storeV 0 (c := ?_) | refine L.storeV 1 (c := ?_) | refine L.storeV 2 (c := ?_) | refine L.storeV 3 (c := ?_) | refine L.storeV 4 (c := ?_) | refine L.extract (c := ?_) | refine L.build (c := ?_) | refine L.alloc (c := fun _ => ?_) | refine L.box (c := fun _ => ?_) | refine L.nilCheck (k := ?_) | refine C.yes (h1 := ?_) | refine C.no (h1 := ?_) | refine L.pickT (k := ?_) | refine L.pickF (k := ?_) | refine L.want (k := ?_) | refine L.pass (k := ?_) | refine L.not (c := ?_) | refine L.lenS (c := ?_) | refine L.strNe (c := ?_) | refine L.strEq (c := ?_) | refine L.lenV (c := ?_) | refine C.block ?_ | refine D.blkNormal ?_ | refine C.ret ?_ | refine D.thenRet ?_ | refine D.blkRet ?_ | refine C.exit ?_ | refine D.thenExit ?_ | refine D.blkExit ?_ | refine D.blkOther (h := ?_) | refine C.skip ?_ | refine L.convI (c := ?_) | refine L.makeMap (c := fun _ => ?_) | refine D.any ?_ | refine D.seqR (h := ?_) | refine L.eqA (c := ?_) | refine L.neA (c := ?_) | refine L.funNil (c := ?_) | refine L.eqB (c := ?_) | refine L.neB (c := ?_) | refine L.passU (k := ?_) | refine L.makeFunc (k := ?_) | refine L.buildS (c := fun _ => ?_) | exact D.endsQ | refine QL.fin ?_ | refine C.quiet (h := ?_) | refine N.fin (h := ?_) | refine L.assertY (c := ?_) | refine L.assertN (c := ?_) | refine N.one (i := 0) (h := ?_) | refine N.one (i := 1) (h := ?_) | refine N.one (i := 2) (h := ?_) | refine N.one (i := 3) (h := ?_) | refine N.one (i := 4) (h := ?_) | refine N.one (i := 5) (h := ?_) | refine N.one (i := 6) (h := ?_) | refine N.one (i := 7) (h := ?_) | refine N.one (i := 8) (h := ?_) | refine N.one (i := 9) (h := ?_) | refine N.one (i := 10) (h := ?_) | refine N.one (i := 11) (h := ?_) | (refine QL.step (v := ?_) (by exact rfl) (by exact rfl) ?_ ?_; rotate_left) | refine L.ar (ho := c0) (c := ?_))
      refine D.ret (vs := [.int .i64 (n % m)]) (RV.tmp rfl RV.nil) ?_
      intro w' hw
      exact Post.mk (is := []) hw (by decide) rfl ⟨rfl, rfl⟩
    · have c2 : cm .lss (n.tmod m) 0 = false := cm_lo' (by omega)
      have c3 : ar .rem .i64 n m = n.tmod m := rfl
      repeat (first | refine C.seq ?_ | refine C.region ?_ | refine L.nil ?_ | refine D.seq ?_ | refine L.move (k := ?_) | refine L.assign (k := ?_) | refine L.cm (c := ?_) | refine L.ar (c := ?_) | refine L.fieldAddr (c := ?_) | refine L.load1 0 (c := ?_) | refine L.load1 1 (c := ?_) | refine L.load1 2 (c := ?_) | refine L.load1 3 (c := ?_) | refine L.load1 4 (c := ?_) | refine L.loadA 0 (c := ?_) | refine L.loadA 1 (c := ?_) | refine L.loadA 2 (c := ?_) | refine L.loadA 3 (c := ?_) | refine L.loadA 4 (c := ?_) | refine L.storeV 0 (c := ?_) | refine L.storeV 1 (c := ?_) | refine L.storeV 2 (c := ?_) | refine L.storeV 3 (c := ?_) | refine L.storeV 4 (c := ?_) | refine L.extract (c := ?_) | refine L.build (c := ?_) | refine L.alloc (c := fun _ => ?_) | refine L.box (c := fun _ => ?_) | refine L.nilCheck (k := ?_) | refine C.yes (h1 := ?_) | refine C.no (h1 := ?_) | refine L.pickT (k := ?_) | refine L.pickF (k := ?_) | refine L.want (k := ?_) | refine L.pass (k := ?_) | refine L.not (c := ?_) | refine L.lenS (c := ?_) | refine L.strNe (c := ?_) | refine L.strEq (c := ?_) | refine L.lenV (c := ?_) | refine C.block ?_ | refine D.blkNormal ?_ | refine C.ret ?_ | refine D.thenRet ?_ | refine D.blkRet ?_ | refine C.exit ?_ | refine D.thenExit ?_ | refine D.blkExit ?_ | refine D.blkOther (h := ?_) | refine C.skip ?_ | refine L.convI (c := ?_) | refine L.makeMap (c := fun _ => ?_) | refine D.any ?_ | refine D.seqR (h := ?_) | refine L.eqA (c := ?_) | refine L.neA (c := ?_) | refine L.funNil (c := ?_) | refine L.eqB (c := ?_) | refine L.neB (c := ?_) | refine L.passU (k := ?_) | refine L.makeFunc (k := ?_) | refine L.buildS (c := fun _ => ?_) | exact D.endsQ | refine QL.fin ?_ | refine C.quiet (h := ?_) | refine N.fin (h := ?_) | refine L.assertY (c := ?_) | refine L.assertN (c := ?_) | refine N.one (i := 0) (h := ?_) | refine N.one (i := 1) (h := ?_) | refine N.one (i := 2) (h := ?_) | refine N.one (i := 3) (h := ?_) | refine N.one (i := 4) (h := ?_) | refine N.one (i := 5) (h := ?_) | refine N.one (i := 6) (h := ?_) | refine N.one (i := 7) (h := ?_) | refine N.one (i := 8) (h := ?_) | refine N.one (i := 9) (h := ?_) | refine N.one (i := 10) (h := ?_) | refine N.one (i := 11) (h := ?_) | (refine QL.step (v := ?_) (by exact rfl) (by exact rfl) ?_ ?_; rotate_left) | refine L.ar (ho := c0) (c := ?_))
      refine D.ret (vs := [.int .i64 (n.tmod m)]) (RV.tmp rfl RV.nil) ?_
      intro w' hw
      exact Post.mk (is := []) hw (by decide) rfl ⟨by
        have h1 := Int.tmod_eq_emod (a := n) (b := m)
        have h3 := Int.emod_lt_of_pos n (show 0 < m by omega)
        have e : n.tmod m = n % m := by split at h1 <;> omega
        rw [← e]; rfl, rfl⟩

theorem num_zero (l : List UInt8) : numL (48 :: l) 0 = numL l 0 := by
  rw [numL, dif_neg (by simp), decL_asc (by decide)]
  rfl
theorem run_done {s : ByteArray} {p g : Nat} (h : s.size ≤ p) : runP s p 1 g = ([], s.size, 0) := by
  rw [runP, dif_neg (by omega), end_white]
theorem alone1 {k : Int} {t : List UInt8} (h : Wd k t) (hl : t.length ≤ 60000) : allP ⟨t.toArray⟩ = ([⟨k, ⟨t.toArray⟩, 0⟩], t.length, 0) := by
  have hsz : (⟨t.toArray⟩ : ByteArray).size = t.length := by rw [← bl_len]
  have := run_word (s := ⟨t.toArray⟩) (pre := []) (r := []) h (by simp [Bl]) (.inl rfl) 0
  rw [allP_short (by omega)]
  have e : runP ⟨t.toArray⟩ 0 1 0 = ([⟨k, ⟨t.toArray⟩, 0⟩], t.length, 0) := by
    have h2 := this
    have e0 : runP ⟨t.toArray⟩ (([] : List UInt8).length + t.length) 1 0 = ([], t.length, 0) := by rw [run_done (by rw [hsz]; simp), hsz]
    rw [e0] at h2
    exact h2
  rw [e]; rfl
theorem alone2 {k k' : Int} {t u : List UInt8} {s : ByteArray} (h : Wd k t) (h' : Wd k' u) (hs : Bl s = t ++ (35 :: 10 :: u)) (hl : t.length + u.length ≤ 60000) :
    allP s = ([⟨k, ⟨t.toArray⟩, 0⟩, ⟨k', ⟨u.toArray⟩, t.length + 2⟩], s.size, 0) := by
  have hsz := size_of hs
  simp at hsz
  have h35 : (35 : UInt8).toNat < 128 ∧ kindR ((35 : UInt8).toNat : Int) = 2 := by decide
  have h1 := run_word (s := s) (pre := []) (r := 35 :: 10 :: u) h (by simpa using hs) (.inr ⟨35, _, rfl, h35.1, .inr h35.2⟩) 0
  simp only [List.length_nil, Nat.zero_add] at h1
  have d1 : (Bl s).drop t.length = 35 :: 10 :: u := by rw [hs, List.drop_left]
  have d2 : (Bl s).drop (t.length + 1) = 10 :: u := by rw [← List.drop_drop, d1]; rfl
  have e1 : runP s t.length 1 0 = runP s (t.length + 1) 2 t.length := by
    rw [runP, dif_pos (by omega), d1, decL_asc h35.1, if_neg (by decide)]
    simp only [goes_white, Bool.false_eq_true, if_false, end_white, h35.2, List.nil_append]
    rw [if_neg (by decide), if_neg (by decide)]
  have e2 : runP s (t.length + 1) 2 t.length = runP s (t.length + 2) 1 0 := by
    have hk : kindR ((10 : UInt8).toNat : Int) = 1 := by decide
    have hg : goesR 2 ((10 : UInt8).toNat : Int) 1 = false := by decide
    have hE : ∀ b, endT s 2 t.length (t.length + 1) b = ([], none) := fun b => by unfold endT; rw [if_neg (by decide), if_neg (by decide)]
    rw [runP, dif_pos (by omega), d2, decL_asc (by decide), if_neg (by decide)]
    simp only [hk, hg, Bool.false_eq_true, if_false, hE, List.nil_append]
    rw [if_neg (by decide), if_neg (by decide)]
    exact runP_white _ _ _ _
  have h2 := run_word (s := s) (pre := t ++ [35, 10]) (r := []) h' (by rw [hs]; simp) (.inl rfl) 0
  have hlen : (t ++ [35, 10]).length = t.length + 2 := by simp
  have e3 : runP s (t.length + 2 + u.length) 1 0 = ([], s.size, 0) := run_done (by omega)
  rw [hlen, e3] at h2
  rw [allP_short (by omega), h1, e1, e2, h2]
  simp
theorem dig_no {r : Int} (h : kindR r = 3 ∨ kindR r = 5) : isDig r = false := by
  unfold kindR at h
  cases hd : isDig r with
  | false => rfl
  | true =>
    exfalso
    obtain ⟨h1, h2⟩ := isDig_open.1 hd
    rw [if_neg (by omega), if_neg (by omega)] at h
    have hl : isLet r = false := by
      unfold isLet
      simp
      omega
    rw [hl, hd] at h
    simp at h
theorem wd_num {k : Int} {t : List UInt8} (h : Wd k t) : ((numL t 0).isSome && sne ⟨t.toArray⟩ ⟨#[]⟩) = decide (k = 2) := by
  have hs : ∀ l : List UInt8, l ≠ [] → sne (⟨l.toArray⟩ : ByteArray) ⟨#[]⟩ = true := fun l hl => by
    show (!(seq _ _)) = true
    rw [seq_bl]
    show (!decide (l.toArray.toList = [])) = true
    simp [hl]
  rcases h with ⟨rfl, c, rfl, hc, h5⟩ | ⟨ht, hg, hk⟩
  · have : numL [c] 0 = none := by
      rw [numL, dif_neg (by simp), decL_asc hc, if_neg]
      rw [dig_no (.inr h5)]; simp
    rw [this]; rfl
  · rcases hk with ⟨rfl, hk, _⟩ | ⟨rfl, _, _, hn⟩
    · have : numL t 0 = none := by
        rw [numL, dif_neg ht, if_neg]
        rw [dig_no (.inl hk)]; simp
      rw [this]; rfl
    · rw [hn, hs t ht]; rfl
theorem wd_let {k : Int} {c : UInt8} (h : Wd k [c]) : c.toNat < 128 ∧ (k = 1 → isLet (c.toNat : Int) = true) ∧ (k = 3 → isLet (c.toNat : Int) = false) := by
  have hkl : ∀ r : Int, kindR r = 3 → isLet r = true := fun r hr => by
    unfold kindR at hr
    split at hr
    · cases hr
    · split at hr
      · cases hr
      · split at hr
        · assumption
        · split at hr
          · cases hr
          · split at hr <;> cases hr
  have hkn : ∀ r : Int, kindR r = 5 → isLet r = false := fun r hr => by
    cases hl : isLet r with
    | false => rfl
    | true =>
      unfold kindR at hr
      rw [hl] at hr
      split at hr
      · cases hr
      · split at hr
        · cases hr
        · simp at hr
  rcases h with ⟨rfl, d, hd, hc, h5⟩ | ⟨ht, hg, hk⟩
  · cases hd
    exact ⟨hc, (fun h => by cases h), fun _ => hkn _ h5⟩
  · have hc : c.toNat < 128 := by
      rcases Nat.lt_or_ge c.toNat 128 with h | h
      · exact h
      · exfalso
        apply hg
        rw [decL_F]
        have hb0 : bt [c] 0 = c.toNat := rfl
        have c1 : ct [c] 1 = false := rfl
        rw [hb0, c1]; unfold decF; rw [if_neg (by omega)]; simp
    rw [decL_asc hc] at hk
    refine ⟨hc, fun h1 => ?_, fun h3 => ?_⟩
    · rcases hk with ⟨_, hk, _⟩ | ⟨rfl, _⟩
      · exact hkl _ hk
      · cases h1
    · rcases hk with ⟨rfl, _⟩ | ⟨rfl, _⟩ <;> cases h3
end Go.Proofs.Ytbcbldjnbibigaa
