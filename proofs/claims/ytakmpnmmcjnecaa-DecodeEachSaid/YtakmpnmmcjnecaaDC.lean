/- Several texts, one behind the other. -/
import Derived.Test.YtakmpnmmcjnecaaDB
import Derived.Test.YtakmpnmmcjnecaaMR
set_option linter.unusedVariables false
set_option linter.unusedSimpArgs false
/- What the laws of chapter 7 call beside: keysmithref06, Pick. -/
namespace Go.Proofs.Ytakmpnmmcjnecaa
open Go.RowKit Calm SL
attribute [local irreducible] SL.L SL.C SL.D SL.N SL.H SL.QL

theorem rinst_S (x : Ins) (h : x.ok) : Ctr Try.prog 21 [x.V] [] tt (is (.tuple #[.string x.out, .int .i64 (errOf x.chk)]) []) :=
  spec_below (fun w => rinst_any x.op x.d x.s x.t x.mb x.mi x.ms x.md x.imm w h.2)
theorem rsize_S (x : Ins) (h : x.ok) : Ctr Try.prog 23 [x.V] [] tt (is (.int .i64 x.out.size) []) :=
  spec_below (fun w => rsize_any x.op x.d x.s x.t x.mb x.mi x.ms x.md x.imm w h.2)
theorem own_row {w : World} {b : Nat} {l : List Value} {xs : List Ins} (h : w.heap[b]? = some (ob l 25)) (hl : l.take (xs.length * 9) = xs.flatMap cells9) : InsRow w b 0 xs := by
  intro j x hx k v hv
  rw [Nat.zero_add]
  refine cell_ob h ?_
  have hk : k < 9 := by
    have := (List.getElem?_eq_some_iff.1 hv).1
    simpa [Ins.vs] using this
  have hj : j < xs.length := (List.getElem?_eq_some_iff.1 hx).1
  have key : ∀ (xs : List Ins) (j : Nat), xs[j]? = some x → (xs.flatMap cells9)[j * 9 + k]? = some v := by
    intro xs
    induction xs with
    | nil => intro j h; simp at h
    | cons y xs ih =>
      intro j h
      rw [List.flatMap_cons]
      cases j with
      | zero =>
        cases h
        rw [Nat.zero_mul, Nat.zero_add, List.getElem?_append_left (by simpa [cells9] using hk)]
        exact hv
      | succ j =>
        have e : (j + 1) * 9 + k = (cells9 y).length + (j * 9 + k) := by simp [cells9]; omega
        rw [e, List.getElem?_append_right (by omega), Nat.add_sub_cancel_left]
        exact ih j (by simpa using h)
  have h2 := key xs j hx
  rw [← hl, List.getElem?_take] at h2
  rw [if_pos (by omega)] at h2
  exact h2
theorem rall_S (b cap : Nat) (l : List Value) (xs : List Ins) (hn : xs.length ≤ 1000) (hok : ∀ x ∈ xs, x.ok) (hl : l.take (xs.length * 9) = xs.flatMap cells9) :
    Ctr Try.prog 22 [.slice (some ⟨b, 0, none⟩) xs.length cap] [(b, ob l 25)] tt (is (.tuple #[.string (outs xs), .int .i64 (errOf (allOk xs))]) [(b, ob l 25)]) := by
  intro w _ h2 _
  have hb := h2 (b, _) List.mem_cons_self
  refine (rall_any b 0 cap xs w hn hok (own_row hb hl) (some_lt hb)).mono ?_
  rintro e w' ⟨rfl, hB⟩
  refine ⟨_, _, rfl, ⟨rfl, rfl⟩, Keeps.of_below hB _, by simp [keys], fun x hx => ?_, fun x hx => ?_⟩
  · obtain rfl : x = (b, ob l 25) := by simpa using hx
    exact .inl (by simp [keys])
  · obtain rfl : x = (b, ob l 25) := by simpa using hx
    rw [hB.block b (some_lt hb)]; exact hb
theorem rall_nil (a : Option Addr) (cap : Nat) (w : World) :
    Calls Try.prog 22 #[.slice a 0 cap] w fun e w' => e = .returned (.tuple #[.string ⟨#[]⟩, .int .i64 0]) ∧ Below w.heap.size w w' := by
  go_enter Try.func22, Try.ntmps22
  go_wp2_with fail
  go_loopw [4, 5] (fun v i wr => v = .string ⟨#[]⟩ ∧ i = .int .i64 0 ∧ w = wr) (fun _ _ _ => 0)
  case atStart => exact ⟨rfl, rfl, rfl⟩
  case round =>
    obtain ⟨rfl, rfl, rfl⟩ := hrel
    go_wp2_with fail
    go_ret2
    exact ⟨rfl, Below.refl _ _⟩
theorem rall_N : Ctr Try.prog 22 [.slice none 0 0] [] tt (is (.tuple #[.string (outs []), .int .i64 (errOf (allOk []))]) []) :=
  spec_below (fun w => rall_nil none 0 w)
/-- Pick. -/
def pickI (n m : Int) : Int := if m < 1 then 0 else n % m
theorem pick_S (n m : Int) (hn : -9223372036854775808 ≤ n ∧ n ≤ 9223372036854775807) (hm : -9223372036854775808 ≤ m ∧ m ≤ 9223372036854775807) : Ctr Try.prog 33 [.int .i64 n, .int .i64 m] [] tt (is (.int .i64 (pickI n m)) []) := by
  refine Ctr.enter Try.func33 Try.ntmps33 rfl rfl (fun w _ => ?_)
  unfold pickI
  by_cases h : m < 1
  · have c1 : cm .lss m 1 = true := cm_lo h
    rw [if_pos h]
    repeat (first | refine C.seq ?_ | refine C.region ?_ | refine L.nil ?_ | refine D.seq ?_ | refine L.move (k := ?_) | refine L.assign (k := ?_) | refine L.cm (c := ?_) | refine L.ar (c := ?_) | refine L.fieldAddr (c := ?_) | refine L.load1 0 (c := ?_) | refine L.load1 1 (c := ?_) | refine L.load1 2 (c := ?_) | refine L.load1 3 (c := ?_) | refine L.load1 4 (c := ?_) | refine L.loadA 0 (c := ?_) | refine L.loadA 1 (c := ?_) | refine L.loadA 2 (c := ?_) | refine L.loadA 3 (c := ?_) | refine L.loadA 4 (c := ?_) | refine L.storeV 0 (c := ?_) | refine L.storeV 1 (c := ?_) | refine L.storeV 2 (c := ?_) | refine L.storeV 3 (c := ?_) | refine L.storeV 4 (c := ?_) | refine L.extract (c := ?_) | refine L.build (c := ?_) | refine L.alloc (c := fun _ => ?_) | refine L.box (c := fun _ => ?_) | refine L.nilCheck (k := ?_) | refine C.yes (h1 := ?_) | refine C.no (h1 := ?_) | refine L.pickT (k := ?_) | refine L.pickF (k := ?_) | refine L.want (k := ?_) | refine L.pass (k := ?_) | refine L.not (c := ?_) | refine L.lenS (c := ?_) | refine L.strNe (c := ?_) | refine L.strEq (c := ?_) | refine L.lenV (c := ?_) | refine C.block ?_ | refine D.blkNormal ?_ | refine C.ret ?_ | refine D.thenRet ?_ | refine D.blkRet ?_ | refine C.exit ?_ | refine D.thenExit ?_ | refine D.blkExit ?_ | refine D.blkOther (h := ?_) | refine C.skip ?_ | refine L.convI (c := ?_) | refine L.makeMap (c := fun _ => ?_) | refine D.any ?_ | refine D.seqR (h := ?_) | refine L.eqA (c := ?_) | refine L.neA (c := ?_) | refine L.funNil (c := ?_) | refine L.eqB (c := ?_) | refine L.neB (c := ?_) | refine L.passU (k := ?_) | refine L.makeFunc (k := ?_) | refine L.buildS (c := fun _ => ?_) | exact D.endsQ | refine QL.fin ?_ | refine C.quiet (h := ?_) | refine N.fin (h := ?_) | refine L.assertY (c := ?_) | refine L.assertN (c := ?_) | refine N.one (i := 0) (h := ?_) | refine N.one (i := 1) (h := ?_) | refine N.one (i := 2) (h := ?_) | refine N.one (i := 3) (h := ?_) | refine N.one (i := 4) (h := ?_) | refine N.one (i := 5) (h := ?_) | refine N.one (i := 6) (h := ?_) | refine N.one (i := 7) (h := ?_) | refine N.one (i := 8) (h := ?_) | refine N.one (i := 9) (h := ?_) | refine N.one (i := 10) (h := ?_) | refine N.one (i := 11) (h := ?_) | (refine QL.step (v := ?_) (by exact rfl) (by exact rfl) ?_ ?_; rotate_left))
    refine D.ret (vs := [.int .i64 0]) (RV.tmp rfl RV.nil) ?_
    intro w' hw
    exact Post.mk (is := []) hw (by decide) rfl ⟨rfl, rfl⟩
  · have c1 : cm .lss m 1 = false := cm_lo' (by omega)
    have c0 : arOk .rem .i64 .i64 m = true := by show (IntKind.i64 == IntKind.i64 && m != 0) = true; simp; omega
    rw [if_neg h]
    by_cases h2 : n.tmod m < 0
    · have c2 : cm .lss (n.tmod m) 0 = true := cm_lo h2
      have c3 : ar .rem .i64 n m = n.tmod m := rfl
      have hlo := Int.tmod_lt_of_pos n (show 0 < m by omega)
      have c4 : ar .add .i64 (n.tmod m) m = n % m := by
        have h1 := Int.tmod_eq_emod (a := n) (b := m)
        have h3 := Int.emod_nonneg n (show m ≠ 0 by omega)
        have h4 := Int.emod_lt_of_pos n (show 0 < m by omega)
        have e : n.tmod m + m = n % m := by split at h1 <;> omega
        show IntKind.i64.wrap (n.tmod m + m) = _
        rw [e]
        simp only [IntKind.wrap, IntKind.bits, IntKind.signed]
        simp
        split <;> omega
      repeat (first | refine C.seq ?_ | refine C.region ?_ | refine L.nil ?_ | refine D.seq ?_ | refine L.move (k := ?_) | refine L.assign (k := ?_) | refine L.cm (c := ?_) | refine L.ar (c := ?_) | refine L.fieldAddr (c := ?_) | refine L.load1 0 (c := ?_) | refine L.load1 1 (c := ?_) | refine L.load1 2 (c := ?_) | refine L.load1 3 (c := ?_) | refine L.load1 4 (c := ?_) | refine L.loadA 0 (c := ?_) | refine L.loadA 1 (c := ?_) | refine L.loadA 2 (c := ?_) | refine L.loadA 3 (c := ?_) | refine L.loadA 4 (c := ?_) | refine L.storeV 0 (c := ?_) | refine L.storeV 1 (c := ?_) | refine L.storeV 2 (c := ?_) | refine L.storeV 3 (c := ?_) | refine L.storeV 4 (c := ?_) | refine L.extract (c := ?_) | refine L.build (c := ?_) | refine L.alloc (c := fun _ => ?_) | refine L.box (c := fun _ => ?_) | refine L.nilCheck (k := ?_) | refine C.yes (h1 := ?_) | refine C.no (h1 := ?_) | refine L.pickT (k := ?_) | refine L.pickF (k := ?_) | refine L.want (k := ?_) | refine L.pass (k := ?_) | refine L.not (c := ?_) | refine L.lenS (c := ?_) | refine L.strNe (c := ?_) | refine L.strEq (c := ?_) | refine L.lenV (c := ?_) | refine C.block ?_ | refine D.blkNormal ?_ | refine C.ret ?_ | refine D.thenRet ?_ | refine D.blkRet ?_ | refine C.exit ?_ | refine D.thenExit ?_ | refine D.blkExit ?_ | refine D.blkOther (h := ?_) | refine C.skip ?_ | refine L.convI (c := ?_) | refine L.makeMap (c := fun _ => ?_) | refine D.any ?_ | refine D.seqR (h := ?_) | refine L.eqA (c := ?_) | refine L.neA (c := ?_) | refine L.funNil (c := ?_) | refine L.eqB (c := ?_) | refine L.neB (c := ?_) | refine L.passU (k := ?_) | refine L.makeFunc (k := ?_) | refine L.buildS (c := fun _ => ?_) | exact D.endsQ | refine QL.fin ?_ | refine C.quiet (h := ?_) | refine N.fin (h := ?_) | refine L.assertY (c := ?_) | refine L.assertN (c := ?_) | refine N.one (i := 0) (h := ?_) | refine N.one (i := 1) (h := ?_) | refine N.one (i := 2) (h := ?_) | refine N.one (i := 3) (h := ?_) | refine N.one (i := 4) (h := ?_) | refine N.one (i := 5) (h := ?_) | refine N.one (i := 6) (h := ?_) | refine N.one (i := 7) (h := ?_) | refine N.one (i := 8) (h := ?_) | refine N.one (i := 9) (h := ?_) | refine N.one (i := 10) (h := ?_) | refine N.one (i := 11) (h := ?_) | (refine QL.step (v := ?_) (by exact rfl) (by exact rfl) ?_ ?_; rotate_left) | refine L.ar (ho := c0) (c := ?_))
      refine D.ret (vs := [.int .i64 (n % m)]) (RV.tmp rfl RV.nil) ?_
      intro w' hw
      exact Post.mk (is := []) hw (by decide) rfl ⟨rfl, rfl⟩
    · have c2 : cm .lss (n.tmod m) 0 = false := cm_lo' (by omega)
      have c3 : ar .rem .i64 n m = n.tmod m := rfl
      repeat (first | refine C.seq ?_ | refine C.region ?_ | refine L.nil ?_ | refine D.seq ?_ | refine L.move (k := ?_) | refine L.assign (k := ?_) | refine L.cm (c := ?_) | refine L.ar (c := ?_) | refine L.fieldAddr (c := ?_) | refine L.load1 0 (c := ?_) | refine L.load1 1 (c := ?_) | refine L.load1 2 (c := ?_) | refine L.load1 3 (c := ?_) | refine L.load1 4 (c := ?_) | refine L.loadA 0 (c := ?_) | refine L.loadA 1 (c := ?_) | refine L.loadA 2 (c := ?_) | refine L.loadA 3 (c := ?_) | refine L.loadA 4 (c := ?_) | refine L.storeV 0 (c := ?_) | refine L.storeV 1 (c := ?_) | refine L.storeV 2 (c := ?_) | refine L.storeV 3 (c := ?_) | refine L.storeV 4 (c := ?_) | refine L.extract (c := ?_) | refine L.build (c := ?_) | refine L.alloc (c := fun _ => ?_) | refine L.box (c := fun _ => ?_) | refine L.nilCheck (k := ?_) | refine C.yes (h1 := ?_) | refine C.no (h1 := ?_) | refine L.pickT (k := ?_) | refine L.pickF (k := ?_) | refine L.want (k := ?_) | refine L.pass (k := ?_) | refine L.not (c := ?_) | refine L.lenS (c := ?_) | refine L.strNe (c := ?_) | refine L.strEq (c := ?_) | refine L.lenV (c := ?_) | refine C.block ?_ | refine D.blkNormal ?_ | refine C.ret ?_ | refine D.thenRet ?_ | refine D.blkRet ?_ | refine C.exit ?_ | refine D.thenExit ?_ | refine D.blkExit ?_ | refine D.blkOther (h := ?_) | refine C.skip ?_ | refine L.convI (c := ?_) | refine L.makeMap (c := fun _ => ?_) | refine D.any ?_ | refine D.seqR (h := ?_) | refine L.eqA (c := ?_) | refine L.neA (c := ?_) | refine L.funNil (c := ?_) | refine L.eqB (c := ?_) | refine L.neB (c := ?_) | refine L.passU (k := ?_) | refine L.makeFunc (k := ?_) | refine L.buildS (c := fun _ => ?_) | exact D.endsQ | refine QL.fin ?_ | refine C.quiet (h := ?_) | refine N.fin (h := ?_) | refine L.assertY (c := ?_) | refine L.assertN (c := ?_) | refine N.one (i := 0) (h := ?_) | refine N.one (i := 1) (h := ?_) | refine N.one (i := 2) (h := ?_) | refine N.one (i := 3) (h := ?_) | refine N.one (i := 4) (h := ?_) | refine N.one (i := 5) (h := ?_) | refine N.one (i := 6) (h := ?_) | refine N.one (i := 7) (h := ?_) | refine N.one (i := 8) (h := ?_) | refine N.one (i := 9) (h := ?_) | refine N.one (i := 10) (h := ?_) | refine N.one (i := 11) (h := ?_) | (refine QL.step (v := ?_) (by exact rfl) (by exact rfl) ?_ ?_; rotate_left) | refine L.ar (ho := c0) (c := ?_))
      refine D.ret (vs := [.int .i64 (n.tmod m)]) (RV.tmp rfl RV.nil) ?_
      intro w' hw
      exact Post.mk (is := []) hw (by decide) rfl ⟨by
        have h1 := Int.tmod_eq_emod (a := n) (b := m)
        have h3 := Int.emod_lt_of_pos n (show 0 < m by omega)
        have e : n.tmod m = n % m := by split at h1 <;> omega
        rw [← e]; rfl, rfl⟩
end Go.Proofs.Ytakmpnmmcjnecaa

/- Plain laws of the rows that are read. No program in sight. -/
namespace Go.Proofs.Ytakmpnmmcjnecaa

theorem endAt_cons (a k : Nat) (x : Ins) (r : List (Nat × Ins)) : endAt a ((k, x) :: r) = endAt (k + x.enc.length) r := by
  unfold endAt
  rw [List.getLast?_cons]
  cases h : r.getLast? <;> simp
theorem rows_end : ∀ (l : List Int) (a : Nat), (∀ b ∈ l, Byte b) → (rows l a).flatMap (·.2.enc) = l.take (endAt a (rows l a) - a) ∧ a ≤ endAt a (rows l a) ∧ endAt a (rows l a) - a ≤ l.length ∧
    (l.drop (endAt a (rows l a) - a) = [] ∨ (rdD (l.drop (endAt a (rows l a) - a))).2.2 ≠ 0) ∧ ∀ p ∈ rows l a, p.2.ok ∧ p.2.chk = true := by
  intro l
  induction h : l.length using Nat.strongRecOn generalizing l with
  | _ n ih =>
    subst h
    intro a hb
    by_cases hc : l ≠ [] ∧ 0 < (rdD l).2.1 ∧ (rdD l).2.2 = 0
    · have hp := rd_pos hb hc.2.2
      have hg := rd_good hb hc.2.2
      have hn := rd_len hb hc.2.2
      obtain ⟨g1, g2, g3, g4, g5⟩ := ih (l.drop (rdD l).2.1).length (by rw [List.length_drop]; omega) _ rfl (a + (rdD l).2.1) (fun b hb' => hb b (List.mem_of_mem_drop hb'))
      have hr : rows l a = (a, (rdD l).1) :: rows (l.drop (rdD l).2.1) (a + (rdD l).2.1) := by rw [rows, dif_pos hc]
      have he : endAt a (rows l a) = endAt (a + (rdD l).2.1) (rows (l.drop (rdD l).2.1) (a + (rdD l).2.1)) := by rw [hr, endAt_cons, hn]
      have hx : (rdD l).1.enc = l.take (rdD l).2.1 := by
        rcases rd_cases l hb with ⟨x, r, h1, h2, h3, h4⟩ | ⟨_, h4⟩
        · rw [h4]; simp only; conv => rhs; rw [h1]
          rw [List.take_left]
        · rw [h4] at hc; simp at hc
      rw [he]
      generalize endAt (a + (rdD l).2.1) (rows (l.drop (rdD l).2.1) (a + (rdD l).2.1)) = en at *
      rw [List.length_drop] at g3
      have e1 : en - a = (rdD l).2.1 + (en - (a + (rdD l).2.1)) := by omega
      refine ⟨?_, by omega, by omega, ?_, ?_⟩
      · rw [hr, List.flatMap_cons, g1, hx, e1, List.take_add]
      · rw [e1, ← List.drop_drop]; exact g4
      · rw [hr]; intro p hp'
        rcases List.mem_cons.1 hp' with rfl | hp'
        · exact hg
        · exact g5 p hp'
    · have hr : rows l a = [] := by rw [rows, dif_neg hc]
      rw [hr]
      refine ⟨by simp [endAt], Nat.le_refl _, by simp [endAt], ?_, by simp⟩
      simp only [endAt, List.getLast?_nil, Nat.sub_self, List.drop_zero]
      by_cases h0 : l = []
      · exact .inl h0
      · right; intro he
        exact hc ⟨h0, (rd_pos hb he).1, he⟩
/-- An instruction's bytes that are cut are none. -/
theorem rd_cut (x : Ins) (hc : x.chk = true) (hi : x.ok) (k : Nat) (hk : k < x.enc.length) : rdD (x.enc.take k) = (zeroI, 0, 4) := by
  have hb : ∀ b ∈ x.enc.take k, Byte b := fun b hb => (Ins.enc_bytes hc).1 b (List.mem_of_mem_take hb)
  rcases rd_cases _ hb with ⟨y, r, h1, h2, h3, _⟩ | ⟨_, h4⟩
  · exfalso
    have e : x.enc ++ [] = y.enc ++ (r ++ x.enc.drop k) := by
      rw [List.append_nil, ← List.append_assoc, ← h1, List.take_append_drop]
    have := enc_apart hc h2 hi.2 h3.2 e
    subst this
    have h5 := congrArg List.length h1
    rw [List.length_take, List.length_append] at h5
    omega
  · exact h4
end Go.Proofs.Ytakmpnmmcjnecaa
