/- keysmithkit.Natural, Trimmed, Same, Pick at naturals, as contracts; how a law's walk keeps what it has made. -/
import Derived.Test.YtpemoeincepilaaDoorNtM
import Derived.Test.YtpemoeincepilaaDoorNtI
set_option linter.unusedVariables false
set_option linter.unusedSimpArgs false
namespace Go.Proofs.YtpemoeincepilaaDoor.Nt
open Go Go.RowKit SL
attribute [local irreducible] SL.L SL.C SL.D SL.N SL.H SL.QL SL.QW SL.QP

/-- Naturals that read. -/
def Fs (w : World) (ps : List (Value × List Nat)) : Prop := ∀ p ∈ ps, RdN w [] p.1 p.2
/-- What a walk keeps: what is owned later is owned of the world ahead; the naturals read. -/
structure Kp (w w1 : World) (ps : List (Value × List Nat)) : Prop where
  bk : ∀ M2 w', At w1 [] M2 w' → At w [] M2 w'
  fs : Fs w1 ps
theorem Kp.init {w : World} {ps : List (Value × List Nat)} (h : Fs w ps) : Kp w w ps := ⟨fun _ _ h => h, h⟩
theorem Kp.rd {w w1 w' : World} {ps : List (Value × List Nat)} (h : Kp w w1 ps) {v : Value} {l : List Nat} (hm : (v, l) ∈ ps) {M : Hp} (hw : At w1 [] M w') : RdN w' [] v l := Rd.at (h.fs _ hm) hw
theorem Kp.next {w w1 w2 : World} {ps : List (Value × List Nat)} {M : Hp} {v : Value} {l : List Nat} (h : Kp w w1 ps) (hw : At w1 [] M w2) (hr : RdN w2 [] v l) : Kp w w2 ((v, l) :: ps) :=
  ⟨fun M2 w' h2 => h.bk M2 w' (At.back (B := M) (M' := []) (by rw [List.append_nil]; exact hw) h2), fun p hp => by
    rcases List.mem_cons.1 hp with rfl | hp
    · exact hr
    · exact Rd.at (h.fs p hp) hw⟩
theorem Kp.sl {w w1 : World} {ps : List (Value × List Nat)} (h : Kp w w1 ps) {v : Value} {l : List Nat} (hm : (v, l) ∈ ps) : SlV v l.length := (h.fs _ hm).1
section
variable {P : Program} {ops : Array Oper} {Q : Exit → Act → World → Prop} {n : Nat} {ro : Option Nat} {dl : List Deferred} {E : Env} {rest : List Oper} {d t : Nat} {pos : String} {af : Array Edge}
/-- A number is handed back; it is left behind, to be read. -/
theorem callN {f : FuncId} [Fun P f] {xs : List Operand} {ts : Array TypeId} {vs : List Value} {pre : World → Prop} {w w1 : World} {ps : List (Value × List Nat)} {x : Nat} (hK : Kp w w1 ps)
    (spec : Ctr P f vs [] pre (natR x)) (hpre : ∀ w', At w1 [] [] w' → pre w') (hn : Nat.blt d n = true := by exact rfl) (hx : evs E xs = some vs := by exact rfl)
    (k : ∀ v w2, Kp w w2 ((v, can x) :: ps) → L P ops Q rest { w0 := w2, A := [], n := n, ro := ro, dl := dl } ((d, v) :: E) []) :
    L P ops Q (⟨some d, .call { callee := .value (.func f), args := xs.toArray, argTypes := ts }, t, pos, af, none⟩ :: rest) { w0 := w1, A := [], n := n, ro := ro, dl := dl } E [] := by
  refine L.callP [] spec hn hx rfl (by decide) hpre ?_
  rintro v B ⟨y, hG, rfl, rfl⟩
  refine L.base (osC 34 y []) (M' := []) rfl (fun w2 h2 => ?_)
  have h2' : At w1 [] (osC 34 y [] ++ []) w2 := h2
  exact k _ w2 (hK.next h2' (hG.left h2'))
theorem callE {f : FuncId} [Fun P f] {xs : List Operand} {ts : Array TypeId} {vs : List Value} {pre : World → Prop} {w w1 : World} {ps : List (Value × List Nat)} {x : Nat} {e : Int} (hK : Kp w w1 ps)
    (spec : Ctr P f vs [] pre (natE x e)) (hpre : ∀ w', At w1 [] [] w' → pre w') (hn : Nat.blt d n = true := by exact rfl) (hx : evs E xs = some vs := by exact rfl)
    (k : ∀ v w2, Kp w w2 ((v, can x) :: ps) → L P ops Q rest { w0 := w2, A := [], n := n, ro := ro, dl := dl } ((d, shut [v, .int .i64 e]) :: E) []) :
    L P ops Q (⟨some d, .call { callee := .value (.func f), args := xs.toArray, argTypes := ts }, t, pos, af, none⟩ :: rest) { w0 := w1, A := [], n := n, ro := ro, dl := dl } E [] := by
  refine L.callP [] spec hn hx rfl (by decide) hpre ?_
  rintro v B ⟨y, hG, rfl, rfl⟩
  refine L.base (osC 34 y []) (M' := []) rfl (fun w2 h2 => ?_)
  have h2' : At w1 [] (osC 34 y [] ++ []) w2 := h2
  exact k _ w2 (hK.next h2' (hG.left h2'))
/-- A block of limbs that was built is left behind, to be read. -/
theorem keepB {w w1 : World} {ps : List (Value × List Nat)} {b cap : Nat} {cells : List Value} {l : List Nat} (hK : Kp w w1 ps) (hc : l.length ≤ cap) (hl : cells.take l.length = u64s l)
    (k : ∀ w2, Kp w w2 ((.slice (some ⟨b, 0, none⟩) l.length cap, l) :: ps) → L P ops Q rest { w0 := w2, A := [], n := n, ro := ro, dl := dl } E []) :
    L P ops Q rest { w0 := w1, A := [], n := n, ro := ro, dl := dl } E [(b, ob cells 34)] := by
  refine L.base [(b, ob cells 34)] (M' := []) rfl (fun w2 h2 => ?_)
  have h2' : At w1 [] [(b, ob cells 34)] w2 := h2
  exact k w2 (hK.next h2' (Rd.own (h2'.holds _ List.mem_cons_self) (by simp) hc l.length hl))
end
/-! How great numbers are. -/
def sm (k n : Nat) : Prop := n < 18446744073709551616 ^ k
theorem sm_le {i j n : Nat} (h : sm i n) (hij : i ≤ j) : sm j n := Nat.lt_of_lt_of_le h (Nat.pow_le_pow_right (by omega) hij)
theorem sm_lv {l : List Nat} {k : Nat} (ho : okL l) (hl : l.length ≤ k) : sm k (lv l) := sm_le (lv_lt ho) hl
theorem sm_add {k x y : Nat} (hx : sm k x) (hy : sm k y) : sm (k + 1) (x + y) := by
  unfold sm at *
  rw [Nat.pow_succ]
  have := pow_posB k
  omega
theorem sm_mul {i j x y : Nat} (hx : sm i x) (hy : sm j y) : sm (i + j) (x * y) := by
  unfold sm at *
  rw [Nat.pow_add]
  exact Nat.mul_lt_mul'' hx hy
theorem sm_sub {k x : Nat} (y : Nat) (hx : sm k x) : sm k (x - y) := Nat.lt_of_le_of_lt (Nat.sub_le _ _) hx
theorem sm_len {k n : Nat} (h : sm k n) : (can n).length ≤ k := can_len.2 h
/-- Trimmed. -/
theorem trimmed_S (l : List Nat) (hl : l.length ≤ 1000000) (ht : trm l) (v : Value) : Ctr Tryd.prog 14 [v] [] (fun w => RdN w [] v l) (is (.bool true) []) := by
  refine Ctr.enter Tryd.func14 Tryd.ntmps14 rfl rfl (fun w hr => ?_)
  have sv := hr.1
  rcases Nat.eq_zero_or_pos l.length with h0 | hp
  · have c1 : cm .eql (l.length : Int) 0 = true := cm_yes (by omega)
    repeat (first | refine C.seq ?_ | refine C.region ?_ | refine L.nil ?_ | refine D.seq ?_ | refine L.move (k := ?_) | refine L.assign (k := ?_) | refine L.cm (c := ?_) | refine L.pickT (k := ?_) | refine L.pass (k := ?_) | refine C.ret ?_ | refine L.lenR sv (c := ?_))
    (refine D.ret (vs := [_]) (RV.tmp rfl RV.nil) ?_; intro w' hw; exact Post.mk (is := []) hw List.nodup_nil rfl ⟨rfl, rfl⟩)
  · have c1 : cm .eql (l.length : Int) 0 = false := cm_no (by omega)
    have c2 : ar .sub .i64 (l.length : Int) 1 = ((l.length - 1 : Nat) : Int) := i64_sub (b := 1) (by omega) (by omega)
    have hlt : l.length - 1 < l.length := by omega
    have o0 := hr.2 hp
    have hx := get_lmb hlt
    have hg := u64s_get hx
    have hne : lmb l (l.length - 1) ≠ 0 := ht _ (by rw [List.getLast?_eq_getElem?]; exact hx)
    have c3 : cm .neq (lmb l (l.length - 1) : Int) 0 = true := cm_ne (by omega)
    repeat (first | refine C.seq ?_ | refine C.region ?_ | refine L.nil ?_ | refine D.seq ?_ | refine L.move (k := ?_) | refine L.assign (k := ?_) | refine L.cm (c := ?_) | refine L.ar (c := ?_) | refine L.pickF (k := ?_) | refine L.want (k := ?_) | refine C.ret ?_ | refine L.lenR sv (c := ?_) | refine L.indexR sv hlt (c := ?_) | refine L.loadF o0 hg (ho := by simp) (c := ?_))
    (refine D.ret (vs := [_]) (RV.tmp rfl RV.nil) ?_; intro w' hw; exact Post.mk (is := []) hw List.nodup_nil rfl ⟨rfl, rfl⟩)
/-- Same, of the same limbs. -/
theorem same_S (l : List Nat) (hl : l.length ≤ 1000000) (va vb : Value) : Ctr Tryd.prog 27 [va, vb] [] (fun w => RdN w [] va l ∧ RdN w [] vb l) (is (.bool true) []) := by
  refine Ctr.enter Tryd.func27 Tryd.ntmps27 rfl rfl (fun w hr => ?_)
  obtain ⟨ra, rb⟩ := hr
  have sa := ra.1
  have sb := rb.1
  have c0 : cm .neq (l.length : Int) l.length = false := cm_ne' rfl
  repeat (first | refine C.seq ?_ | refine C.region ?_ | refine L.nil ?_ | refine D.seq ?_ | refine L.move (k := ?_) | refine L.assign (k := ?_) | refine L.cm (c := ?_) | refine C.no (h1 := ?_) | refine C.block ?_ | refine C.skip ?_ | refine L.lenR sa (c := ?_) | refine L.lenR sb (c := ?_))
  refine C.loop (α := Nat) (fun i => i ≤ l.length) (fun i => [(0, va), (1, vb), (5, .int .i64 (i : Int))]) (fun _ => []) (fun i => l.length - i) 0 (fun a w hs => hs.lessE rfl (lk_cons rfl (lk_cons rfl (lk_cons rfl (fun _ _ h => lk_nil h))))) (Nat.zero_le _) ?_
  intro i hi
  rcases Nat.lt_or_ge i l.length with hlt | hge
  · have c1 : cm .lss (i : Int) l.length = true := cm_lo (by omega)
    have c2 : ar .add .i64 (i : Int) 1 = ((i + 1 : Nat) : Int) := i64_add (b := 1) (by omega)
    have c3 : cm .neq (lmb l i : Int) (lmb l i) = false := cm_ne' rfl
    have oA := ra.2 (by omega)
    have oB := rb.2 (by omega)
    have hg := u64s_get (get_lmb hlt)
    repeat' (first | refine C.seq ?_ | refine C.region ?_ | refine L.nil ?_ | refine D.seq ?_ | refine L.move (k := ?_) | refine L.assign (k := ?_) | refine L.cm (c := ?_) | refine L.ar (c := ?_) | refine C.yes (h1 := ?_) | refine C.no (h1 := ?_) | refine C.block ?_ | refine D.blkNormal ?_ | refine C.skip ?_ | exact D.endsQ | refine QL.fin ?_ | refine C.quiet (h := ?_) | (refine QL.step (v := ?_) (by exact rfl) (by exact rfl) ?_ ?_; rotate_left) | refine L.lenR sa (c := ?_) | refine L.indexR sa hlt (c := ?_) | refine L.indexR sb hlt (c := ?_) | refine L.loadF oA hg (ho := by simp) (c := ?_) | refine L.loadF oB hg (ho := by simp) (c := ?_))
    exact D.then_ fun a1 w1 hs => ⟨i + 1, hlt, by omega, hs.lessE rfl (lk_cons rfl (lk_cons rfl (lk_cons rfl (fun _ _ h => lk_nil h))))⟩
  · have c1 : cm .lss (i : Int) l.length = false := cm_lo' (by omega)
    repeat (first | refine C.seq ?_ | refine C.region ?_ | refine L.nil ?_ | refine D.seq ?_ | refine L.move (k := ?_) | refine L.assign (k := ?_) | refine L.cm (c := ?_) | refine C.no (h1 := ?_) | refine C.ret ?_ | refine C.exit ?_ | refine D.thenExit ?_ | refine D.blkExit ?_ | refine L.lenR sa (c := ?_))
    (refine D.ret (vs := [_]) (RV.tmp rfl RV.nil) ?_; intro w' hw; exact Post.mk (is := []) hw List.nodup_nil rfl ⟨rfl, rfl⟩)
theorem pick_S (n m : Int) (hm : 1 ≤ m ∧ m ≤ 1000000) (hn : -9223372036854775808 ≤ n ∧ n ≤ 9223372036854775807) : Ctr Tryd.prog 17 [.int .i64 n, .int .i64 m] [] tt (is (.int .i64 (n % m)) []) := by
  have c1 : cm .lss m 1 = false := cm_lo' (by omega)
  have c2 : ar .rem .i64 n m = n.tmod m := rfl
  have hm0 : arOk .rem .i64 .i64 m = true := by unfold arOk; simp; omega
  refine Ctr.enter Tryd.func17 Tryd.ntmps17 rfl rfl (fun w _ => ?_)
  have h1 := Int.tmod_eq_emod (a := n) (b := m)
  have h2 := Int.emod_nonneg n (show m ≠ 0 by omega)
  have h3 := Int.emod_lt_of_pos n (show 0 < m by omega)
  by_cases hneg : n.tmod m < 0
  · have c3 : cm .lss (n.tmod m) 0 = true := cm_lo hneg
    have c4 : ar .add .i64 (n.tmod m) m = n % m := by
      have hb : -m < n.tmod m := by
        rw [h1]; split <;> omega
      have e : n.tmod m + m = n % m := by
        rw [h1] at hneg ⊢
        split at hneg
        · omega
        · rename_i hh; rw [if_neg hh]; omega
      show IntKind.i64.wrap _ = _
      rw [IntKind.wrap_i64, e]; omega
    repeat (first | refine L.ar (op := .rem) (ho := hm0) (hz := c2) (c := ?_) | refine C.seq ?_ | refine C.region ?_ | refine L.nil ?_ | refine D.seq ?_ | refine L.move (k := ?_) | refine L.assign (k := ?_) | refine L.cm (c := ?_) | refine L.ar (c := ?_) | refine C.yes (h1 := ?_) | refine C.no (h1 := ?_) | refine C.ret ?_ | refine C.skip ?_)
    (refine D.ret (vs := [_]) (RV.tmp rfl RV.nil) ?_; intro w' hw; exact Post.mk (is := []) hw List.nodup_nil rfl ⟨rfl, rfl⟩)
  · have c3 : cm .lss (n.tmod m) 0 = false := cm_lo' (by omega)
    have e : n.tmod m = n % m := by
      rw [h1] at hneg ⊢
      split at hneg
      · rename_i hh; rw [if_pos hh]; omega
      · omega
    repeat (first | refine L.ar (op := .rem) (ho := hm0) (hz := c2) (c := ?_) | refine C.seq ?_ | refine C.region ?_ | refine L.nil ?_ | refine D.seq ?_ | refine L.move (k := ?_) | refine L.assign (k := ?_) | refine L.cm (c := ?_) | refine C.no (h1 := ?_) | refine C.ret ?_ | refine C.skip ?_)
    rw [← e]
    (refine D.ret (vs := [_]) (RV.tmp rfl RV.nil) ?_; intro w' hw; exact Post.mk (is := []) hw List.nodup_nil rfl ⟨rfl, rfl⟩)
end Go.Proofs.YtpemoeincepilaaDoor.Nt
