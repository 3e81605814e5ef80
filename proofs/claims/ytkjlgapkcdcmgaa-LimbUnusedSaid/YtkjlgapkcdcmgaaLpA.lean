/- LimbUnused: the walk. -/
import Derived.Test.YtkjlgapkcdcmgaaLp6
import Derived.Test.YtkjlgapkcdcmgaaFin
set_option linter.unusedVariables false
set_option linter.unusedSimpArgs false
namespace Go.Proofs.Ytkjlgapkcdcmgaa
open Go Go.RowKit SL
/-- A cut of a slice. -/
def cutV (v : Value) (lo hi sz : Nat) : Value := match v with
  | .slice p _ cap => .slice (if cap = lo then p else p.map (·.add (lo * sz))) (hi - lo) (cap - lo)
  | _ => v
theorem cutV_sl {v : Value} {n lo hi : Nat} (sz : Nat) (h : SlV v n) (h1 : lo ≤ hi) (h2 : hi ≤ n) : SlV (cutV v lo hi sz) (hi - lo) ∧ (lo < hi → sB (cutV v lo hi sz) = sB v ∧ sO (cutV v lo hi sz) = sO v + lo * sz) := by
  obtain ⟨p, cap, rfl, hc, hp⟩ := h
  refine ⟨⟨_, _, rfl, by omega, fun h => ?_⟩, fun h => ?_⟩
  · have h0 := hp (by omega)
    rw [h0]
    simp only [cutV, Option.map_some]
    rw [if_neg (by omega)]
    simp only [add_at, sB, sO]
  · have h0 := hp (by omega)
    rw [h0]
    simp only [cutV, Option.map_some, sB, sO]
    rw [if_neg (by omega)]
    simp only [add_at]
    exact ⟨trivial, trivial⟩
section
variable {P : Program} {ops : Array Oper} {Q : Exit → Act → World → Prop} {s : St} {E : Env} {M : Hp} {rest : List Oper} {d t : Nat} {pos : String} {af : Array Edge}
theorem SL.L.sliceX {T e sz n lo hi : Nat} {x : Operand} {y z : Option Operand} {v : Value} (h : SlV v n) [hT : Und P T (.slice e)] [hS : Siz P e sz]
    (h1 : lo ≤ hi) (h2 : hi ≤ n) (hn : Nat.blt d s.n = true := by exact rfl) (hx : ev E x = some v := by exact rfl)
    (hy : (y = none ∧ lo = 0) ∨ ∃ o q, y = some o ∧ ev E o = some (.int q (lo : Int))) (hz : (z = none ∧ hi = n) ∨ ∃ o q, z = some o ∧ ev E o = some (.int q (hi : Int)))
    (c : L P ops Q rest s ((d, cutV v lo hi sz) :: E) M) : L P ops Q (⟨some d, .slice T x y z none, t, pos, af, none⟩ :: rest) s E M := by
  obtain ⟨p, cap, hv, hc, hp⟩ := h
  have hh := fun (a : Act) (w : World) (hs : Sat s E M a w) => bounds_run (P := P) (w := w) (sl := true) (n := n) (cap := cap) (opt_ev hs hy) (opt_ev hs hz) h1 (Nat.le_trans h2 hc)
  refine L.calm (S := fun ρ => Instr.sliceAt T (ρ x) (y.map ρ) (z.map ρ) none) (v := cutV v lo hi sz) hn (fun _ => rfl) (fun a w hs => ?_) c
  show (Instr.sliceAt T (a.eval x) (y.map a.eval) (z.map a.eval) none).run P w = _
  rw [hs.ev hx, hv]
  unfold Instr.sliceAt
  rw [run_bind_ok und_run]
  simp only
  unfold Instr.slice
  rw [run_bind_ok und_run]
  simp only
  refine (run_bind_ok (hh a w hs)).trans ?_
  simp only
  rw [run_bind_ok (siz_run hS.out)]
  rfl
end
theorem rd_take {w : World} {A : List Nat} {v : Value} {os : List Lop} {k : Nat} (h : Rd w A v os.length (os.flatMap encO)) (hk : k ≤ os.length) : Rd w A (cutV v 0 k 8) (os.take k).length ((os.take k).flatMap encO) := by
  obtain ⟨g1, g2⟩ := cutV_sl 8 h.1 (Nat.zero_le k) hk
  have e : (os.take k).length = k - 0 := by simp; omega
  rw [e]
  refine Rd.sub (sz := 8) h hk g1 g2 (fun i u hi => ?_)
  rw [Nat.zero_mul, Nat.zero_add]
  rw [← List.take_append_drop k os, List.flatMap_append, List.getElem?_append_left (List.getElem?_eq_some_iff.1 hi).1]
  exact hi
theorem rd_drop {w : World} {A : List Nat} {v : Value} {os : List Lop} {k : Nat} (h : Rd w A v os.length (os.flatMap encO)) (hk : k ≤ os.length) : Rd w A (cutV v k os.length 8) (os.drop k).length ((os.drop k).flatMap encO) := by
  obtain ⟨g1, g2⟩ := cutV_sl 8 h.1 hk (Nat.le_refl _)
  have e : (os.drop k).length = os.length - k := by simp
  rw [e]
  refine Rd.sub (sz := 8) h (Nat.le_refl _) g1 g2 (fun i u hi => ?_)
  have hl : ((os.take k).flatMap encO).length = k * 8 := by rw [flat_len encO_len]; simp; omega
  have : os.flatMap encO = (os.take k).flatMap encO ++ (os.drop k).flatMap encO := by rw [← List.flatMap_append, List.take_append_drop]
  rw [this, List.getElem?_append_right (by omega), hl, Nat.add_sub_cancel_left]
  exact hi
attribute [local irreducible] SL.L SL.C SL.D SL.N SL.H SL.QL SL.QW SL.QP

theorem other_S (r regs : Int) (hr : -1 ≤ r ∧ r < 1000) (hg : 0 ≤ regs ∧ regs ≤ 1000) : Ctr Try.prog 39 [.int .i64 r, .int .i64 regs] [] tt (is (.int .i64 (othR regs r)) []) := by
  refine Ctr.enter Try.func39 Try.ntmps39 rfl rfl (fun w _ => ?_)
  unfold othR
  by_cases h : r < 0
  · have c1 : cm .lss r 0 = true := cm_lo h
    rw [if_pos h]
    repeat (first | refine C.seq ?_ | refine C.region ?_ | refine L.nil ?_ | refine D.seq ?_ | refine L.move (k := ?_) | refine L.assign (k := ?_) | refine L.cm (c := ?_) | refine C.yes (h1 := ?_) | refine C.ret ?_ | refine D.thenRet ?_)
    (refine D.ret (vs := [_]) (RV.tmp rfl RV.nil) ?_; intro w' hw; exact Post.mk (is := []) hw List.nodup_nil rfl ⟨rfl, rfl⟩)
  · have c1 : cm .lss r 0 = false := cm_lo' (by omega)
    have c2 : ar .sub .i64 regs r = regs - r := wrap_big (by omega)
    rw [if_neg h]
    repeat (first | refine C.seq ?_ | refine C.region ?_ | refine L.nil ?_ | refine D.seq ?_ | refine L.move (k := ?_) | refine L.assign (k := ?_) | refine L.cm (c := ?_) | refine L.ar (c := ?_) | refine C.no (h1 := ?_) | refine C.ret ?_ | refine C.skip ?_)
    (refine D.ret (vs := [_]) (RV.tmp rfl RV.nil) ?_; intro w' hw; exact Post.mk (is := []) hw List.nodup_nil rfl ⟨rfl, rfl⟩)
/-- The first ones renamed. -/
def rnK (f : Int → Int) (os : List Lop) (i : Nat) : List Lop := (os.take i).map (rnO f) ++ os.drop i
theorem rnK_len (f : Int → Int) (os : List Lop) (i : Nat) (h : i ≤ os.length) : (rnK f os i).length = os.length := by unfold rnK; simp; omega
theorem rnK_get {f : Int → Int} {os : List Lop} {i : Nat} {o : Lop} (h : os[i]? = some o) : (rnK f os i)[i]? = some o := by
  have hl := (List.getElem?_eq_some_iff.1 h).1
  unfold rnK
  rw [List.getElem?_append_right (by simp; omega)]
  simp only [List.length_map, List.length_take, List.getElem?_drop]
  rw [Nat.min_eq_left (by omega), show i + (i - i) = i by omega]; exact h
theorem rnK_set {f : Int → Int} {os : List Lop} {i : Nat} {o : Lop} (h : os[i]? = some o) : (rnK f os i).set i (rnO f o) = rnK f os (i + 1) := by
  have hl := (List.getElem?_eq_some_iff.1 h).1
  unfold rnK
  rw [List.set_append, if_neg (by simp; omega)]
  simp only [List.length_map, List.length_take]
  rw [Nat.min_eq_left (by omega), show i - i = 0 by omega, List.take_add_one, h]
  have hd : os.drop i = o :: os.drop (i + 1) := by
    rw [List.drop_eq_getElem_cons hl, (List.getElem?_eq_some_iff.1 h).2]
  rw [hd]
  simp
theorem rnK_all (f : Int → Int) (os : List Lop) : rnK f os os.length = os.map (rnO f) := by unfold rnK; simp
theorem setL_app (A : List Value) : ∀ (vs l : List Value) (o : Nat), setL (A ++ l) (A.length + o) vs = A ++ setL l o vs
  | [], l, o => rfl
  | v :: vs, l, o => by
    show setL ((A ++ l).set (A.length + o) v) (A.length + o + 1) vs = A ++ setL (l.set o v) (o + 1) vs
    rw [List.set_append_right _ _ (by omega), show A.length + o - A.length = o by omega, show A.length + o + 1 = A.length + (o + 1) by omega, setL_app A vs]
theorem flat_setA {α : Type} {n : Nat} {enc : α → List Value} (he : ∀ x, (enc x).length = n) : ∀ (xs : List α) (i : Nat) (x : α), i < xs.length → setL (xs.flatMap enc) (i * n) (enc x) = (xs.set i x).flatMap enc
  | [], i, x, h => by simp at h
  | y :: xs, 0, x, _ => by
    rw [Nat.zero_mul, setL_zero _ _ (by rw [List.flatMap_cons, List.length_append, he, he]; omega)]
    rw [List.flatMap_cons, he, List.drop_left' (he y)]
    rfl
  | y :: xs, i + 1, x, h => by
    rw [List.set_cons_succ, List.flatMap_cons, List.flatMap_cons, ← flat_setA he xs i x (by simpa using h)]
    have e : (i + 1) * n = (enc y).length + i * n := by rw [he, Nat.add_mul]; omega
    rw [e, setL_app]
set_option maxRecDepth 100000 in
set_option maxHeartbeats 16000000 in
theorem unusedLaw_S (regs : Int) (vb vo v : Value) (bs : List Bf) (os : List Lop) (rs : Rws) (aT nT : Int) (hbl : bs.length ≤ maxLen) (hol : os.length ≤ maxLen) (hrl : rs.length ≤ maxLen) (hI : ∀ o ∈ os, W64 o.imm) (hrs : ∀ r ∈ rs, RngR r.2) (haT : -9223372036854775808 ≤ aT ∧ aT ≤ 9223372036854775807) (hnT : W64 nT) :
    Ctr Try.prog 9 [progV regs vb vo, v, .int .i64 aT, .int .u64 nT] [] (fun w => (Rd w [] vb bs.length (bs.flatMap encB) ∧ Rd w [] vo os.length (os.flatMap encO)) ∧ RdR w [] v rs) (is (.bool true) []) := by
  refine Ctr.enter Try.func9 Try.ntmps9 rfl rfl (fun w hr => ?_)
  have s1 := hr.1.1.1
  have s2 := hr.1.2.1
  have kL := light_S regs vb vo bs os.length 60 s2 hbl hol
  have kR := lightRows_S v rs hrl
  have kS := lsteps_S regs vb vo bs os hbl
  obtain ⟨n, hn⟩ : ∃ n, stepsR regs bs os = n := ⟨_, rfl⟩
  rw [hn] at kS
  unfold progV
  repeat' (first | refine C.seq ?_ | refine C.region ?_ | refine L.nil ?_ | refine D.seq ?_ | refine L.assign (k := ?_) | refine L.loadA 0 (c := ?_) | refine L.box (c := fun _ => ?_) | refine C.no (h1 := ?_) | refine L.not (c := ?_) | refine C.skip ?_ | refine L.callQ (lives12_S) (k := ?_))
  rename_i pb
  refine L.callP [] (check_S regs vb vo bs os hbl) (hpre := fun w hw => ⟨hr.1.1.at hw, hr.1.2.at hw⟩) (k := ?_)
  rintro u0 B0 ⟨rfl, rfl⟩
  rw [hdrop_nil]
  unfold shut
  rw [List.nil_append]
  cases hL : lightM regs bs os.length 60 with
  | false =>
    rw [hL] at kL
    repeat' (first | refine C.seq ?_ | refine C.region ?_ | refine L.nil ?_ | refine D.seq ?_ | refine L.move (k := ?_) | refine L.assign (k := ?_) | refine L.loadA 0 (c := ?_) | refine L.extract (c := ?_) | refine C.yes (h1 := ?_) | refine L.pickT (k := ?_) | refine L.pass (k := ?_) | refine L.not (c := ?_) | refine C.ret ?_ | refine D.thenRet ?_ | refine L.callQ kL (hpre := fun w hw => hr.1.1.at hw) (k := ?_))
    (refine D.ret (vs := [_]) (RV.tmp rfl RV.nil) ?_; intro w' hw; exact Post.mkD 1 hw rfl ⟨rfl, rfl⟩)
  | true =>
  rw [hL] at kL
  cases hA : lightRowsM rs with
  | false =>
    rw [hA] at kR
    repeat' (first | refine C.seq ?_ | refine C.region ?_ | refine L.nil ?_ | refine D.seq ?_ | refine L.move (k := ?_) | refine L.assign (k := ?_) | refine L.loadA 0 (c := ?_) | refine L.extract (c := ?_) | refine C.yes (h1 := ?_) | refine L.pickT (k := ?_) | refine L.pickF (k := ?_) | refine L.want (k := ?_) | refine L.pass (k := ?_) | refine L.not (c := ?_) | refine C.ret ?_ | refine D.thenRet ?_ | refine L.callQ kL (hpre := fun w hw => hr.1.1.at hw) (k := ?_) | refine L.callQ kR (hpre := fun w hw => hr.2.at hw) (k := ?_))
    (refine D.ret (vs := [_]) (RV.tmp rfl RV.nil) ?_; intro w' hw; exact Post.mkD 1 hw rfl ⟨rfl, rfl⟩)
  | true =>
  rw [hA] at kR
  by_cases he : (checkM regs bs os).2 ≠ 0
  · have c1 : cm .neq (checkM regs bs os).2 0 = true := cm_ne he
    repeat' (first | refine C.seq ?_ | refine C.region ?_ | refine L.nil ?_ | refine D.seq ?_ | refine L.move (k := ?_) | refine L.assign (k := ?_) | refine L.cm (c := ?_) | refine L.loadA 0 (c := ?_) | refine L.extract (c := ?_) | refine C.yes (h1 := ?_) | refine L.pickT (k := ?_) | refine L.pickF (k := ?_) | refine L.want (k := ?_) | refine L.pass (k := ?_) | refine L.not (c := ?_) | refine C.ret ?_ | refine D.thenRet ?_ | refine L.callQ kL (hpre := fun w hw => hr.1.1.at hw) (k := ?_) | refine L.callQ kR (hpre := fun w hw => hr.2.at hw) (k := ?_))
    (refine D.ret (vs := [_]) (RV.tmp rfl RV.nil) ?_; intro w' hw; exact Post.mkD 1 hw rfl ⟨rfl, rfl⟩)
  replace he : (checkM regs bs os).2 = 0 := by omega
  have c1 : cm .neq (checkM regs bs os).2 0 = false := cm_ne' he
  have hsn : stepsM os = n := by rw [← hn]; unfold stepsR; rw [if_pos he]
  by_cases hst : 5000 < n
  · have c2 : cm .gtr n 5000 = true := cm_gt hst
    repeat' (first | refine C.seq ?_ | refine C.region ?_ | refine L.nil ?_ | refine D.seq ?_ | refine L.move (k := ?_) | refine L.assign (k := ?_) | refine L.cm (c := ?_) | refine L.loadA 0 (c := ?_) | refine L.extract (c := ?_) | refine C.yes (h1 := ?_) | refine L.pickT (k := ?_) | refine L.pickF (k := ?_) | refine L.want (k := ?_) | refine L.pass (k := ?_) | refine L.not (c := ?_) | refine C.ret ?_ | refine D.thenRet ?_ | refine L.callQ kL (hpre := fun w hw => hr.1.1.at hw) (k := ?_) | refine L.callQ kR (hpre := fun w hw => hr.2.at hw) (k := ?_) | refine L.callQ kS (hpre := fun w hw => ⟨hr.1.1.at hw, hr.1.2.at hw⟩) (k := ?_))
    (refine D.ret (vs := [_]) (RV.tmp rfl RV.nil) ?_; intro w' hw; exact Post.mkD 1 hw rfl ⟨rfl, rfl⟩)
  have c2 : cm .gtr n 5000 = false := cm_gt' (by omega)
  by_cases h62 : 62 < regs
  · have c3 : cm .gtr regs 62 = true := cm_gt h62
    repeat' (first | refine C.seq ?_ | refine C.region ?_ | refine L.nil ?_ | refine D.seq ?_ | refine L.move (k := ?_) | refine L.assign (k := ?_) | refine L.cm (c := ?_) | refine L.fieldAddr (c := ?_) | refine L.load1 0 (c := ?_) | refine L.loadA 0 (c := ?_) | refine L.extract (c := ?_) | refine C.yes (h1 := ?_) | refine L.pickF (k := ?_) | refine L.want (k := ?_) | refine L.not (c := ?_) | refine C.ret ?_ | refine D.thenRet ?_ | refine L.callQ kL (hpre := fun w hw => hr.1.1.at hw) (k := ?_) | refine L.callQ kR (hpre := fun w hw => hr.2.at hw) (k := ?_) | refine L.callQ kS (hpre := fun w hw => ⟨hr.1.1.at hw, hr.1.2.at hw⟩) (k := ?_))
    (refine D.ret (vs := [_]) (RV.tmp rfl RV.nil) ?_; intro w' hw; exact Post.mkD 1 hw rfl ⟨rfl, rfl⟩)
  have c3 : cm .gtr regs 62 = false := cm_gt' (by omega)
  obtain ⟨h40, h600⟩ := lightRows_ok hA
  obtain ⟨hl1, hl2, hl3, _⟩ := light_ok hL
  obtain ⟨_, hr0, _⟩ := check_ok he
  repeat' (first | refine C.seq ?_ | refine C.region ?_ | refine L.nil ?_ | refine D.seq ?_ | refine L.move (k := ?_) | refine L.assign (k := ?_) | refine L.cm (c := ?_) | refine L.fieldAddr (c := ?_) | refine L.load1 0 (c := ?_) | refine L.loadA 0 (c := ?_) | refine L.extract (c := ?_) | refine C.no (h1 := ?_) | refine L.pickF (k := ?_) | refine L.want (k := ?_) | refine L.not (c := ?_) | refine C.skip ?_ | refine L.callQ kL (hpre := fun w hw => hr.1.1.at hw) (k := ?_) | refine L.callQ kR (hpre := fun w hw => hr.2.at hw) (k := ?_) | refine L.callQ kS (hpre := fun w hw => ⟨hr.1.1.at hw, hr.1.2.at hw⟩) (k := ?_))
  refine L.base [(pb, ob [.int .i64 regs, vb, vo] 25)] (M' := []) rfl (fun w1 h1 => ?_)
  have opb := Old.own (h1.holds (pb, ob [.int .i64 regs, vb, vo] 25) (by simp)) (A := []) (by simp) _ List.take_length
  have q1 := hr.1.1.at h1
  have q2 := hr.1.2.at h1
  have qv := hr.2.at h1
  have bk1 : ∀ M2 w', At w1 (keys []) M2 w' → At w [] M2 w' := fun M2 w' hw => At.back (at_nilr h1) hw
  obtain ⟨k, hk, hkp⟩ : ∃ k : Nat, k ≤ os.length ∧ pickI aT ((os.length : Int) + 1) = (k : Int) := by
    have e : pickI aT ((os.length : Int) + 1) = aT % ((os.length : Int) + 1) := by unfold pickI; rw [if_neg (by omega)]
    have h1 : 0 ≤ aT % ((os.length : Int) + 1) := Int.emod_nonneg _ (by omega)
    have h2 : aT % ((os.length : Int) + 1) < (os.length : Int) + 1 := Int.emod_lt_of_pos _ (by omega)
    exact ⟨(aT % ((os.length : Int) + 1)).toNat, by omega, by rw [e]; omega⟩
  have kP := pick_S aT ((os.length : Int) + 1) haT (by omega)
  rw [hkp] at kP
  have c4 : ar .add .i64 (os.length : Int) 1 = (os.length : Int) + 1 := wrap_nat (by omega)
  have kOwn := ownProg_S regs vb vo bs.length os.length (bs.flatMap encB) (os.flatMap encO) (flat_len encB_len bs) (flat_len encO_len os) (ones_flat ones_B bs) (ones_flat ones_O os) (by omega) (by omega) s1 s2
  repeat' (first | refine C.seq ?_ | refine C.region ?_ | refine L.nil ?_ | refine L.assign (k := ?_) | refine L.ar (c := ?_) | refine D.seqR (h := ?_) | refine L.loadF opb (i := 0) rfl (c := ?_) | refine L.loadF opb (i := 2) rfl (c := ?_) | refine L.loadOA opb (i := 0) (ho := rfl) (hi := Nat.le_refl 3) (hcs := rfl) (c := ?_) | refine L.lenR s2 (c := ?_) | refine L.callQ kP (k := ?_))
  refine L.callP [] kOwn (hpre := fun w hw => ⟨q1.at hw, q2.at hw⟩) (k := ?_)
  rintro u B ⟨yq, yp, hq0, hp0, rfl, rfl⟩
  rw [hdrop_nil]
  unfold shut progV
  repeat' (first | refine L.alloc (c := fun _ => ?_))
  rename_i qb
  refine L.storeV 0 (vs := [.int .i64 regs, osV bs.length yq, osV os.length yp]) (ho := by simp only [List.all_cons, List.all_nil, oneB_os, Bool.and_true]; rfl) (hM := rfl) (c := ?_)
  refine L.nil ?_
  refine D.seqR (h := ?_)
  refine C.perm (M' := (osC 33 yq [] ++ osC 39 yp []) ++ [(qb, ob [.int .i64 regs, osV bs.length yq, osV os.length yp] 25)]) (by
    rw [osC_app 33 yq (osC 39 yp [])]
    exact perm_by (fun k => match k with | 0 => [(qb, ob [.int .i64 regs, osV bs.length yq, osV os.length yp] 25)] | 1 => osC 33 yq [] | _ => osC 39 yp []) [1, 2, 0] [0, 1, 2] (by simp) (by simp [hset])) ?_
  refine C.base (osC 33 yq [] ++ osC 39 yp []) rfl (fun w2 h2 => ?_)
  obtain ⟨Z, hZ⟩ : ∃ Z, [(qb, ob [.int .i64 regs, osV bs.length yq, osV os.length yp] 25)] = Z := ⟨_, rfl⟩
  have hsub : ∀ x ∈ Z, x ∈ (osC 33 yq [] ++ osC 39 yp []) ++ Z := fun x hx => List.mem_append_right _ hx
  rw [hZ] at h2 ⊢
  have t12 := hq0.rdk (T := 33) (A' := keys Z) h2 (fun x hx => by simp [hx]) (fun x hx => At.notin h2 (by simp [hx]))
  have opb2 := opb.base h2 _ hsub
  have q12 := q1.base h2 _ hsub
  have q22 := q2.base h2 _ hsub
  have qv2 := qv.base h2 _ hsub
  have bk2 : ∀ M2 w', At w2 (keys Z) M2 w' → At w [] M2 w' := fun M2 w' hw => bk1 M2 w' (At.back h2 hw)
  subst hZ
  clear hsub
  refine C.seq ?_
  refine C.make [] (by kernel_rfl) (h := ?_)
  have hkt : (os.take k).length ≤ 60 := by simp; omega
  have hkd : (os.drop k).length ≤ 60 := by simp; omega
  iterate 4 ((refine QP.quiet (v := ?_) (by exact rfl) (by exact rfl) (fun w3 g3 => ?_) ?_; rotate_left); have opb3 := opb2.base g3 _ (fun _ h => h); repeat (first | refine L.nil ?_ | refine L.move (k := ?_) | refine L.fieldAddr (c := ?_) | exact D.endsQ | refine L.loadF opb3 (i := 0) rfl (c := ?_) | refine L.loadF opb3 (i := 2) rfl (c := ?_) | refine L.loadOA opb3 (i := 0) (ho := rfl) (hi := Nat.le_refl 3) (hcs := rfl) (c := ?_) | refine L.sliceX s2 (lo := 0) (hi := k) (Nat.zero_le _) hk (hy := .inl ⟨rfl, rfl⟩) (hz := .inr ⟨_, _, rfl, rfl⟩) (c := ?_) | refine L.sliceX s2 (lo := k) (hi := os.length) hk (Nat.le_refl _) (hy := .inr ⟨_, _, rfl, rfl⟩) (hz := .inl ⟨rfl, rfl⟩) (c := ?_) | refine L.callQ (op12_S _ _ _ _ _ _ _) (k := ?_) | exact D.endsQ))
  refine QP.mk0 [] (fun F B => ∃ y, osG 8 (os.take k).length ((os.take k).flatMap encO) y ∧ F = [(65, osV (os.take k).length y)] ∧ B = osC 39 y []) (h := fun w3 g3 => ?_) (k := ?_)
  · refine L.callP [] (ownO_S (cutV vo 0 k 8) (os.take k).length ((os.take k).flatMap encO) (flat_len encO_len _) (ones_flat ones_O _) (by omega)) (hpre := fun w' hw => (rd_take (q22.base g3 _ (fun _ h => h)) hk).at hw) (k := ?_)
    rintro u B ⟨y, hG, rfl, rfl⟩
    rw [hdrop_nil]
    refine L.nil ?_
    exact D.endsP1 (osC 39 y []) (hR := ⟨y, hG, rfl, rfl⟩)
  iterate 4 ((refine QP.quiet (v := ?_) (by exact rfl) (by exact rfl) (fun w3 g3 => ?_) ?_; rotate_left); have opb3 := opb2.base g3 _ (fun _ h => h); repeat (first | refine L.nil ?_ | refine L.move (k := ?_) | refine L.fieldAddr (c := ?_) | exact D.endsQ | refine L.loadF opb3 (i := 0) rfl (c := ?_) | refine L.loadF opb3 (i := 2) rfl (c := ?_) | refine L.loadOA opb3 (i := 0) (ho := rfl) (hi := Nat.le_refl 3) (hcs := rfl) (c := ?_) | refine L.sliceX s2 (lo := 0) (hi := k) (Nat.zero_le _) hk (hy := .inl ⟨rfl, rfl⟩) (hz := .inr ⟨_, _, rfl, rfl⟩) (c := ?_) | refine L.sliceX s2 (lo := k) (hi := os.length) hk (Nat.le_refl _) (hy := .inr ⟨_, _, rfl, rfl⟩) (hz := .inl ⟨rfl, rfl⟩) (c := ?_) | refine L.callQ (op12_S _ _ _ _ _ _ _) (k := ?_) | exact D.endsQ))
  refine QP.mk0 [] (fun F B => ∃ nb, F = [(70, .slice (some ⟨nb, 0, none⟩) 1 1)] ∧ B = [(nb, ob (encO (unC regs nT)) 39)]) (h := fun w3 g3 => ?_) (k := ?_)
  · rw [List.nil_append]
    repeat (first | refine L.nil ?_ | refine L.buildS (c := fun _ => ?_))
    exact D.endsP1 [_] (hR := ⟨_, rfl, rfl⟩)
  refine QP.mk2 4 9 [] (fun F B => ∃ nb y, osG 8 ((os.take k).length + 1) ((os.take k).flatMap encO ++ encO (unC regs nT)) y ∧ F = [(71, osV ((os.take k).length + 1) y)] ∧ B = osC 39 y [(nb, ob (encO (unC regs nT)) 39)]) (h := ?_) (k := ?_)
  · rintro F1 B1 F2 B2 ⟨y1, hG1, rfl, rfl⟩ ⟨nb, rfl, rfl⟩ w3 g3
    refine L.appendU [] (L2 := [(nb, ob (encO (unC regs nT)) 39)]) (y := y1) (m := (os.take k).length) (u := .slice (some ⟨nb, 0, none⟩) 1 1) (k := 1) (news := encO (unC regs nT)) hG1 (by rw [osC_app 39 y1 [(nb, ob (encO (unC regs nT)) 39)]]; simp) (fun w hw => Rd.own (hw.holds (nb, ob (encO (unC regs nT)) 39) (by simp)) (by simp) (Nat.le_refl _) 8 rfl) rfl (ones_O _) (by unfold maxLen; omega) (by omega) (c := fun y' hG' _ => ?_)
    refine L.nil ?_
    exact D.endsP1 (osC 39 y' [(nb, ob (encO (unC regs nT)) 39)]) (hM := by simp) (hR := ⟨nb, y', hG', rfl, rfl⟩)
  iterate 4 ((refine QP.quiet (v := ?_) (by exact rfl) (by exact rfl) (fun w3 g3 => ?_) ?_; rotate_left); have opb3 := opb2.base g3 _ (fun _ h => h); repeat (first | refine L.nil ?_ | refine L.move (k := ?_) | refine L.fieldAddr (c := ?_) | exact D.endsQ | refine L.loadF opb3 (i := 0) rfl (c := ?_) | refine L.loadF opb3 (i := 2) rfl (c := ?_) | refine L.loadOA opb3 (i := 0) (ho := rfl) (hi := Nat.le_refl 3) (hcs := rfl) (c := ?_) | refine L.sliceX s2 (lo := 0) (hi := k) (Nat.zero_le _) hk (hy := .inl ⟨rfl, rfl⟩) (hz := .inr ⟨_, _, rfl, rfl⟩) (c := ?_) | refine L.sliceX s2 (lo := k) (hi := os.length) hk (Nat.le_refl _) (hy := .inr ⟨_, _, rfl, rfl⟩) (hz := .inl ⟨rfl, rfl⟩) (c := ?_) | refine L.callQ (op12_S _ _ _ _ _ _ _) (k := ?_) | exact D.endsQ))
  refine QP.mk1 10 [] (fun F B => ∃ nb y, osG 8 ((os.take k).length + 1 + (os.drop k).length) (((os.take k).flatMap encO ++ encO (unC regs nT)) ++ (os.drop k).flatMap encO) y ∧ F = [(76, osV ((os.take k).length + 1 + (os.drop k).length) y)] ∧ B = osC 39 y [(nb, ob (encO (unC regs nT)) 39)]) (h := ?_) (k := ?_)
  · rintro F B ⟨nb, y1, hG1, rfl, rfl⟩ w3 g3
    refine L.appendU [] (L2 := [(nb, ob (encO (unC regs nT)) 39)]) (y := y1) (m := (os.take k).length + 1) (u := cutV vo k os.length 8) (k := (os.drop k).length) (news := (os.drop k).flatMap encO) hG1 (by simp) (fun w hw => (rd_drop (q22.base g3 _ (fun _ h => h)) hk).at hw) (flat_len encO_len _) (ones_flat ones_O _) (by unfold maxLen; omega) (by omega) (c := fun y' hG' _ => ?_)
    refine L.nil ?_
    exact D.endsP1 (osC 39 y' [(nb, ob (encO (unC regs nT)) 39)]) (hM := by simp) (hR := ⟨nb, y', hG', rfl, rfl⟩)
  (refine QP.quiet (v := ?_) (by exact rfl) (by exact rfl) (fun w3 g3 => ?_) ?_; rotate_left); have opb3 := opb2.base g3 _ (fun _ h => h); repeat (first | refine L.nil ?_ | refine L.fieldAddr (c := ?_) | exact D.endsQ | refine L.loadF opb3 (i := 0) rfl (c := ?_) | refine L.loadF opb3 (i := 2) rfl (c := ?_) | refine L.loadOA opb3 (i := 0) (ho := rfl) (hi := Nat.le_refl 3) (hcs := rfl) (c := ?_) | refine L.sliceX s2 (lo := 0) (hi := k) (Nat.zero_le _) hk (hy := .inl ⟨rfl, rfl⟩) (hz := .inr ⟨_, _, rfl, rfl⟩) (c := ?_) | refine L.sliceX s2 (lo := k) (hi := os.length) hk (Nat.le_refl _) (hy := .inr ⟨_, _, rfl, rfl⟩) (hz := .inl ⟨rfl, rfl⟩) (c := ?_) | refine L.callQ (op12_S _ _ _ _ _ _ _) (k := ?_) | exact D.endsQ)
  refine QP.mk1 15 [(qb, ob [.int .i64 regs, osV bs.length yq, osV os.length yp] 25)] (fun F B => ∃ nb y, osG 8 ((os.take k).length + 1 + (os.drop k).length) (((os.take k).flatMap encO ++ encO (unC regs nT)) ++ (os.drop k).flatMap encO) y ∧ F = [] ∧ B = (qb, ob [.int .i64 regs, osV bs.length yq, osV ((os.take k).length + 1 + (os.drop k).length) y] 25) :: osC 39 y [(nb, ob (encO (unC regs nT)) 39)]) (h := ?_) (k := ?_)
  · rintro F B ⟨nb, y, hG1, rfl, rfl⟩ w3 g3
    refine L.perm (M' := (qb, ob [.int .i64 regs, osV bs.length yq, osV os.length yp] 25) :: osC 39 y [(nb, ob (encO (unC regs nT)) 39)]) (by show List.Perm _ (osC 39 y [(nb, ob (encO (unC regs nT)) 39)] ++ [(qb, ob [.int .i64 regs, osV bs.length yq, osV os.length yp] 25)]); exact (List.perm_append_singleton _ _).symm) ?_
    refine L.storeV 0 (hc := osV_cells _ _) (ho := osV_one _ _) (hl := rfl) (hM := rfl) (c := ?_)
    refine L.nil ?_
    exact D.endsP0 [] ((qb, ob [.int .i64 regs, osV bs.length yq, osV ((os.take k).length + 1 + (os.drop k).length) y] 25) :: osC 39 y [(nb, ob (encO (unC regs nT)) 39)]) (hM := by rw [List.append_nil]; rfl) (hF := fun _ _ h => by cases h) (hR := ⟨nb, y, hG1, rfl, rfl⟩)
  refine QP.fin1 [none, none, none, none, some [], none, none, none, none, some [], some [4, 9], none, none, none, none, some [10], none, some [15]] 17 (nds := [[], [], [], [], [], [], [], [], [], [], [], [], [], [], [], [], [], []]) (hM := List.Perm.refl _) (k := ?_)
  rintro F B ⟨nb, y, hG, rfl, rfl⟩
  rw [List.nil_append, List.append_nil]
  have c5 : ar .add .i64 regs 2 = regs + 2 := wrap_nat (by omega)
  have c6 : ar .add .i64 regs 1 = regs + 1 := wrap_nat (by omega)
  have hqs : (os.take k ++ unC regs nT :: os.drop k).length = (os.take k).length + 1 + (os.drop k).length := by simp; omega
  have hqc : (os.take k ++ unC regs nT :: os.drop k).flatMap encO = ((os.take k).flatMap encO ++ encO (unC regs nT)) ++ (os.drop k).flatMap encO := by simp
  rw [← hqs, ← hqc] at hG
  rw [← hqs]
  obtain ⟨ol, hol2⟩ : ∃ ol, os.take k ++ unC regs nT :: os.drop k = ol := ⟨_, rfl⟩
  rw [hol2] at hG ⊢
  repeat' (first | refine C.seq ?_ | refine C.region ?_ | refine L.nil ?_ | refine D.seq ?_ | refine L.ar (c := ?_) | refine L.fieldAddr (c := ?_) | refine L.storeV 0 (c := ?_) | refine L.loadF opb2 (i := 0) rfl (c := ?_) | refine L.loadF opb2 (i := 2) rfl (c := ?_) | refine L.loadOA opb2 (i := 0) (ho := rfl) (hi := Nat.le_refl 3) (hcs := rfl) (c := ?_))
  refine L.base ((qb, ob [.int .i64 (regs + 2), osV bs.length yq, osV ol.length y] 25) :: osC 39 y [(nb, ob (encO (unC regs nT)) 39)]) (M' := []) (List.append_nil _).symm (fun w4 h4 => ?_)
  have oqb := Old.own (h4.holds (qb, ob [.int .i64 (regs + 2), osV bs.length yq, osV ol.length y] 25) (by simp)) (A := []) (by simp) _ List.take_length
  have rq := hG.rdm (T := 39) h4 (fun x hx => by rw [osC_app 39 y [(nb, ob (encO (unC regs nT)) 39)]]; simp [hx])
  have t14 := t12.at h4
  have opb4 := opb2.at h4
  have q14 := q12.at h4
  have q24 := q22.at h4
  have qv4 := qv2.at h4
  have bk4 : ∀ M2 w', At w4 (keys []) M2 w' → At w [] M2 w' := fun M2 w' hw => bk2 M2 w' (At.back (at_nilr h4) hw)
  refine L.callP [] kOwn (hpre := fun w hw => ⟨q14.at hw, q24.at hw⟩) (k := ?_)
  rintro u B ⟨zq, zp, hz0, hz1, rfl, rfl⟩
  rw [hdrop_nil]
  unfold shut progV
  repeat' (first | refine L.alloc (c := fun _ => ?_))
  rename_i rb
  refine L.storeV 0 (vs := [.int .i64 regs, osV bs.length zq, osV os.length zp]) (ho := by simp only [List.all_cons, List.all_nil, oneB_os, Bool.and_true]; rfl) (hl := rfl) (M' := (rb, ob [.int .i64 regs, osV bs.length zq, osV os.length zp] 25) :: (osC 33 zq (osC 39 zp []) ++ [])) (hM := rfl) (c := ?_)
  repeat' (first | refine C.seq ?_ | refine C.region ?_ | refine L.nil ?_ | refine D.seq ?_ | refine L.assign (k := ?_) | refine L.ar (c := ?_) | refine L.fieldAddr (c := ?_) | refine L.storeV 0 (c := ?_) | refine C.block ?_ | refine D.seqR (h := ?_) | refine L.loadF opb4 (i := 0) rfl (c := ?_) | refine L.loadF opb4 (i := 2) rfl (c := ?_) | refine L.loadOA opb4 (i := 0) (ho := rfl) (hi := Nat.le_refl 3) (hcs := rfl) (c := ?_))
  refine C.perm (M' := ((rb, ob [.int .i64 (regs + 1), osV bs.length zq, osV os.length zp] 25) :: osC 33 zq []) ++ osC 39 zp []) (by
    rw [osC_app 33 zq (osC 39 zp [])]
    exact perm_by (fun k => match k with | 0 => [(rb, ob [.int .i64 (regs + 1), osV bs.length zq, osV os.length zp] 25)] | 1 => osC 33 zq [] | _ => osC 39 zp []) [0, 1, 2] [0, 1, 2] (by simp) (by simp [hset])) ?_
  refine C.base ((rb, ob [.int .i64 (regs + 1), osV bs.length zq, osV os.length zp] 25) :: osC 33 zq []) rfl (fun w5 h5 => ?_)
  obtain ⟨Z, hZ⟩ : ∃ Z, osC 39 zp [] = Z := ⟨_, rfl⟩
  have hsub : ∀ x ∈ Z, x ∈ ((rb, ob [.int .i64 (regs + 1), osV bs.length zq, osV os.length zp] 25) :: osC 33 zq []) ++ Z := fun x hx => List.mem_append_right _ hx
  rw [hZ] at h5 ⊢
  have orb5 : Old w5 (keys Z) rb 0 [.int .i64 (regs + 1), osV bs.length zq, osV os.length zp] := Old.own (h5.holds (rb, ob [.int .i64 (regs + 1), osV bs.length zq, osV os.length zp] 25) (by simp)) (At.notin h5 (x := (rb, ob [.int .i64 (regs + 1), osV bs.length zq, osV os.length zp] 25)) (by simp)) _ List.take_length
  have t15 := hz0.rdk (T := 33) (A' := keys Z) h5 (fun x hx => by simp [hx]) (fun x hx => At.notin h5 (by simp [hx]))
  have oqb5 := oqb.base h5 _ hsub
  have rq5 := rq.base h5 _ hsub
  have t145 := t14.base h5 _ hsub
  have opb5 := opb4.base h5 _ hsub
  have q15 := q14.base h5 _ hsub
  have q25 := q24.base h5 _ hsub
  have qv5 := qv4.base h5 _ hsub
  have bk5 : ∀ M2 w', At w5 (keys Z) M2 w' → At w [] M2 w' := fun M2 w' hw => bk4 M2 w' (At.back h5 hw)
  subst hZ
  clear hsub
  obtain ⟨V, hV⟩ : ∃ V, osV os.length zp = V := ⟨_, rfl⟩
  have sV : SlV V os.length := by rw [← hV]; exact hz1.sl
  rw [hV] at orb5 ⊢
  repeat' (first | fail)
  refine C.loop (α := Nat × OS) (fun x => x.1 ≤ os.length ∧ osG 8 os.length ((rnK (othR regs) os x.1).flatMap encO) x.2 ∧ osV os.length x.2 = V)
    (fun x => [(1, v), (4, .pointer (some ⟨pb, 0, none⟩)), (11, .pointer (some ⟨qb, 0, none⟩)), (12, .pointer (some ⟨rb, 0, none⟩)), (13, .int .i64 x.1)]) (fun x => osC 39 x.2 []) (fun x => os.length - x.1) (0, zp)
    (fun a w hs => hs.lessE rfl (lk_cons rfl (lk_cons rfl (lk_cons rfl (lk_cons rfl (lk_cons rfl (fun _ _ h => lk_nil h))))))) ⟨Nat.zero_le _, by simpa [rnK] using hz1, hV⟩ ?_
  rintro ⟨i, z⟩ ⟨hi, hGz, hvz⟩
  simp only at hi hGz hvz ⊢
  have hrf := rf_mem he
  rcases Nat.lt_or_ge i os.length with hlt | hge
  · have k1 : cm .lss (i : Int) os.length = true := cm_lo (by omega)
    have k2 : ar .add .i64 (i : Int) 1 = ((i + 1 : Nat) : Int) := wrap_nat (by omega)
    obtain ⟨o, ho⟩ : ∃ o, os[i]? = some o := ⟨_, List.getElem?_eq_getElem hlt⟩
    obtain ⟨i1, i2, i3, i4, i5⟩ := rf_in (hrf o (List.mem_of_getElem? ho))
    have hrk := rnK_get (f := othR regs) ho
    obtain ⟨ha1', hal⟩ := flat_at encO_len hrk
    have ha1 := ha1'.trans (encO_ex o)
    have oth : ∀ r, InR regs r → Ctr Try.prog 39 [.int .i64 r, .int .i64 regs] [] tt (is (.int .i64 (othR regs r)) []) := fun r h => other_S r regs (by rcases h with h | h <;> omega) (by omega)
    have x1 := oth _ i1
    have x2 := oth _ i2
    have x3 := oth _ i3
    have x4 := oth _ i4
    have x5 := oth _ i5
    repeat' (first | refine C.seq ?_ | refine C.region ?_ | refine L.nil ?_ | refine D.seq ?_ | refine L.move (k := ?_) | refine L.cm (c := ?_) | refine L.fieldAddr (c := ?_) | refine L.storeV 0 (c := ?_) | refine L.alloc (c := fun _ => ?_) | refine C.yes (h1 := ?_) | refine C.block ?_ | refine C.skip ?_ | refine L.loadF orb5 (i := 0) rfl (c := ?_) | refine L.loadF orb5 (i := 2) rfl (c := ?_) | refine L.loadOA orb5 (i := 0) (ho := rfl) (hi := Nat.le_refl 3) (hcs := rfl) (c := ?_) | refine L.loadF opb5 (i := 0) rfl (c := ?_) | refine L.loadF opb5 (i := 2) rfl (c := ?_) | refine L.loadOA opb5 (i := 0) (ho := rfl) (hi := Nat.le_refl 3) (hcs := rfl) (c := ?_) | refine L.lenR sV (c := ?_) | refine L.indexR sV hlt (c := ?_) | refine L.loadUA [] (L2 := []) hGz rfl hlt ha1 (hb := by rw [hvz]) (ho := by rw [hvz]) (c := ?_))
    rename_i xb
    refine C.make [(xb, ob [.int .i64 o.k, .int .i64 o.d, .int .i64 o.e, .int .i64 o.a, .int .i64 o.b, .int .i64 o.c, .int .i64 o.buf, .int .u64 o.imm] 39)] (by kernel_rfl) (h := ?_)
    iterate 36 ((refine QP.quiet (v := ?_) (by exact rfl) (by exact rfl) (fun w6 g6 => ?_) ?_; rotate_left); have opb6 := opb5.base g6 _ (fun _ h => h); have orb6 := orb5.base g6 _ (fun _ h => h); repeat (first | refine L.nil ?_ | refine L.move (k := ?_) | refine L.fieldAddr (c := ?_) | refine L.load1 0 (c := ?_) | refine L.build (c := ?_) | exact D.endsQ | refine L.loadF opb6 (i := 0) rfl (c := ?_) | refine L.loadF opb6 (i := 2) rfl (c := ?_) | refine L.loadOA opb6 (i := 0) (ho := rfl) (hi := Nat.le_refl 3) (hcs := rfl) (c := ?_) | refine L.loadF orb6 (i := 0) rfl (c := ?_) | refine L.loadF orb6 (i := 2) rfl (c := ?_) | refine L.loadOA orb6 (i := 0) (ho := rfl) (hi := Nat.le_refl 3) (hcs := rfl) (c := ?_) | refine L.indexR sV hlt (c := ?_) | refine L.callQ x1 (k := ?_) | refine L.callQ x2 (k := ?_) | refine L.callQ x3 (k := ?_) | refine L.callQ x4 (k := ?_) | refine L.callQ x5 (k := ?_) | exact D.endsQ))
    refine QP.mk0 (osC 39 z []) (fun F B => ∃ z', osG 8 os.length ((rnK (othR regs) os (i + 1)).flatMap encO) z' ∧ osV os.length z' = V ∧ F = [] ∧ B = osC 39 z' []) (h := fun w6 g6 => ?_) (k := ?_)
    · refine L.setUA [] (L2 := [(xb, ob [.int .i64 o.k, .int .i64 o.d, .int .i64 o.e, .int .i64 o.a, .int .i64 o.b, .int .i64 o.c, .int .i64 o.buf, .int .u64 o.imm] 39)]) (vs := encO (rnO (othR regs) o)) hGz (osC_app _ _ _).symm hvz hlt rfl rfl (c := fun hq' hqv' => ?_)
      refine L.nil ?_
      rw [flat_setA encO_len _ _ _ (by rw [rnK_len _ _ _ hi]; exact hlt), rnK_set ho] at hq'
      exact D.endsP0 [] (osC 39 (osSetL z (i * 8) (encO (rnO (othR regs) o))) []) (hM := osC_app _ _ _) (hF := fun _ _ h => by cases h) (hR := ⟨_, hq', hqv', rfl, rfl⟩)
    refine QP.fin1 [none, none, none, none, none, none, none, none, none, none, none, none, none, none, none, none, none, none, none, none, none, none, none, none, none, none, none, none, none, none, none, none, none, none, none, none, some []] 36 (nds := [[], [], [], [], [], [], [], [], [], [], [], [], [], [], [], [], [], [], [], [], [], [], [], [], [], [], [], [], [], [], [], [], [], [], [], [], []]) (hM := by show List.Perm _ ((osC 39 z [] ++ []) ++ [(xb, ob [.int .i64 o.k, .int .i64 o.d, .int .i64 o.e, .int .i64 o.a, .int .i64 o.b, .int .i64 o.c, .int .i64 o.buf, .int .u64 o.imm] 39)]); rw [List.append_nil]; exact (List.perm_append_singleton _ _).symm) (k := ?_)
    rintro F B ⟨z', hG', hv', rfl, rfl⟩
    refine D.perm (M' := (xb, ob [.int .i64 o.k, .int .i64 o.d, .int .i64 o.e, .int .i64 o.a, .int .i64 o.b, .int .i64 o.c, .int .i64 o.buf, .int .u64 o.imm] 39) :: osC 39 z' []) (List.perm_append_singleton _ _).symm ?_
    repeat' (first | refine C.region ?_ | refine L.nil ?_ | refine D.seq ?_ | refine L.move (k := ?_) | refine L.assign (k := ?_) | refine L.ar (c := ?_) | refine D.blkNormal ?_)
    exact D.then_ fun a1 w7 hs => ⟨(i + 1, z'), ⟨hlt, hG', hv'⟩, by simp only; omega, hs.lessD 1 rfl (lk_cons rfl (lk_cons rfl (lk_cons rfl (lk_cons rfl (lk_cons rfl (fun _ _ h => lk_nil h))))))⟩
  have k1 : cm .lss (i : Int) os.length = false := cm_lo' (by omega)
  have hil : i = os.length := by omega
  rw [hil, rnK_all] at hGz
  repeat' (first | refine C.seq ?_ | refine C.region ?_ | refine L.nil ?_ | refine D.seq ?_ | refine L.move (k := ?_) | refine L.cm (c := ?_) | refine L.fieldAddr (c := ?_) | refine C.no (h1 := ?_) | refine C.exit ?_ | refine D.thenExit ?_ | refine D.blkExit ?_ | refine D.seqR (h := ?_) | refine L.loadF orb5 (i := 0) rfl (c := ?_) | refine L.loadF orb5 (i := 2) rfl (c := ?_) | refine L.loadOA orb5 (i := 0) (ho := rfl) (hi := Nat.le_refl 3) (hcs := rfl) (c := ?_) | refine L.lenR sV (c := ?_))
  refine L.base _ (M' := []) (List.append_nil _).symm (fun w6 h6 => ?_)
  have rz6 := hGz.rdm (T := 39) h6 (fun x hx => by simp [hx])
  rw [hvz] at rz6
  have orb6 := orb5.at h6
  have oqb6 := oqb5.at h6
  have rq6 := rq5.at h6
  have t146 := t145.at h6
  have t156 := t15.at h6
  have opb6 := opb5.at h6
  have q16 := q15.at h6
  have q26 := q25.at h6
  have qv6 := qv5.at h6
  have bk6 : ∀ M2 w', At w6 (keys []) M2 w' → At w [] M2 w' := fun M2 w' hw => bk5 M2 w' (At.back (at_nilr h6) hw)
  obtain ⟨g1, g2⟩ := unused_law (n := nT) (rs := rs) he (by omega) (by omega) hk (by omega)
  obtain ⟨g3, g4⟩ := rn_law (rs := rs) (oth_Rn (regs := regs)) he (by omega) (by omega) (by omega)
  rw [hol2] at g1 g2
  have hIq : ∀ o ∈ ol, W64 o.imm := fun o ho => by
    rw [← hol2] at ho
    rcases List.mem_append.1 ho with h | h
    · exact hI o (List.mem_of_mem_take h)
    · rcases List.mem_cons.1 h with rfl | h
      · exact hnT
      · exact hI o (List.mem_of_mem_drop h)
  have hIr : ∀ o ∈ os.map (rnO (othR regs)), W64 o.imm := fun o ho => by
    obtain ⟨q, hq, rfl⟩ := List.mem_map.1 ho
    exact hI q hq
  repeat' (first | refine L.move (k := ?_) | refine L.loadF opb6 (i := 0) rfl (c := ?_) | refine L.loadF opb6 (i := 2) rfl (c := ?_) | refine L.loadOA opb6 (i := 0) (ho := rfl) (hi := Nat.le_refl 3) (hcs := rfl) (c := ?_))
  refine L.callP [] (lrun_S regs vb vo v bs os rs hbl hI hrs) (hpre := fun w hw => ⟨⟨q16.at hw, q26.at hw⟩, qv6.at hw⟩) (k := ?_)
  intro u1 B1 hu1
  rw [hdrop_nil]
  obtain ⟨xv, lv, rx, rfl, hmx, hgx, hrx⟩ := run_read hu1
  unfold shut
  refine L.base _ (M' := []) (List.append_nil _).symm (fun w7 h7 => ?_)
  obtain ⟨rX, rL⟩ := hrx _ _ _ _ h7 (fun b hb => by simp [hb])
  have oqb7 := oqb6.at h7
  have rq7 := rq6.at h7
  have t147 := t146.at h7
  have orb7 := orb6.at h7
  have rz7 := rz6.at h7
  have t157 := t156.at h7
  have qv7 := qv6.at h7
  have bk7 : ∀ M2 w', At w7 (keys []) M2 w' → At w [] M2 w' := fun M2 w' hw => bk6 M2 w' (At.back (at_nilr h7) hw)
  obtain ⟨sx, so1⟩ := out_small (regs := regs) (bs := bs) (os := os) (rs := rs)
  repeat' (first | refine C.seq ?_ | refine C.region ?_ | refine L.nil ?_ | refine L.move (k := ?_) | refine L.assign (k := ?_) | refine L.extract (c := ?_) | refine D.seqR (h := ?_) | refine L.loadF oqb7 (i := 0) rfl (c := ?_) | refine L.loadF oqb7 (i := 2) rfl (c := ?_) | refine L.loadOA oqb7 (i := 0) (ho := rfl) (hi := Nat.le_refl 3) (hcs := rfl) (c := ?_))
  refine L.callP [] (lrun_S (regs + 2) (osV bs.length yq) (osV ol.length y) v bs ol rs hbl hIq hrs) (hpre := fun w hw => ⟨⟨t147.at hw, rq7.at hw⟩, qv7.at hw⟩) (k := ?_)
  intro u2 B2 hu2
  rw [hdrop_nil]
  obtain ⟨yv, mv, ry, rfl, hmy, hgy, hry⟩ := run_read hu2
  unfold shut
  refine L.base _ (M' := []) (List.append_nil _).symm (fun w8 h8 => ?_)
  obtain ⟨rY, _⟩ := hry _ _ _ _ h8 (fun b hb => by simp [hb])
  have rX8 := rX.at h8
  have orb8 := orb7.at h8
  have rz8 := rz7.at h8
  have t158 := t157.at h8
  have qv8 := qv7.at h8
  have bk8 : ∀ M2 w', At w8 (keys []) M2 w' → At w [] M2 w' := fun M2 w' hw => bk7 M2 w' (At.back (at_nilr h8) hw)
  have hml : (os.map (rnO (othR regs))).length = os.length := by simp
  have rz8' : Rd w8 [] V (os.map (rnO (othR regs))).length ((os.map (rnO (othR regs))).flatMap encO) := by rw [hml]; exact rz8
  repeat' (first | refine C.seq ?_ | refine C.region ?_ | refine L.nil ?_ | refine L.move (k := ?_) | refine L.assign (k := ?_) | refine L.extract (c := ?_) | refine D.seqR (h := ?_) | refine L.loadF orb8 (i := 0) rfl (c := ?_) | refine L.loadF orb8 (i := 2) rfl (c := ?_) | refine L.loadOA orb8 (i := 0) (ho := rfl) (hi := Nat.le_refl 3) (hcs := rfl) (c := ?_))
  refine L.callP [] (lrun_S (regs + 1) (osV bs.length zq) V v bs (os.map (rnO (othR regs))) rs hbl hIr hrs) (hpre := fun w hw => ⟨⟨t158.at hw, rz8'.at hw⟩, qv8.at hw⟩) (k := ?_)
  intro u3 B3 hu3
  rw [hdrop_nil]
  obtain ⟨zv, nv, rz, rfl, hmz, hgz, hrz⟩ := run_read hu3
  unfold shut
  refine L.base _ (M' := []) (List.append_nil _).symm (fun w9 h9 => ?_)
  obtain ⟨rZ, _⟩ := hrz _ _ _ _ h9 (fun b hb => by simp [hb])
  have rX9 := rX8.at h9
  have rY9 := rY.at h9
  have bk9 : ∀ M2 w', At w9 (keys []) M2 w' → At w [] M2 w' := fun M2 w' hw => bk8 M2 w' (At.back (at_nilr h9) hw)
  clear hrx hry hrz hu1 hu2 hu3
  obtain ⟨X1, hX1⟩ : ∃ x, outR regs bs os rs = x := ⟨_, rfl⟩
  obtain ⟨X2, hX2⟩ : ∃ x, outR (regs + 2) bs ol rs = x := ⟨_, rfl⟩
  obtain ⟨X3, hX3⟩ : ∃ x, outR (regs + 1) bs (os.map (rnO (othR regs))) rs = x := ⟨_, rfl⟩
  rw [hX1] at g1 g2 g3 g4 hmx so1 ⊢
  rw [hX2] at g1 g2 hmy ⊢
  rw [hX3] at g3 g4 hmz ⊢
  have d1 : cm .eql X1.1 X2.1 = true := cm_yes g1.symm
  have d2 : cm .eql X1.1 X3.1 = true := cm_yes g3.symm
  have hxl : rx.length ≤ 32 := by have := congrArg List.length hmx; rw [List.length_map] at this; omega
  have hsm : ∀ r ∈ rx, r.2.length ≤ 1000000 := fun r hr => by
    have : r.2 ∈ rx.map (·.2) := List.mem_map.2 ⟨r, hr, rfl⟩
    rw [hmx] at this
    have := so1.2.2 _ this
    omega
  have kR2 := rowsEq_S xv yv rx ry (by omega) hsm
  rw [decide_eq_true (show rx.map (·.2) = ry.map (·.2) by rw [hmx, hmy, g2])] at kR2
  have kR3 := rowsEq_S xv zv rx rz (by omega) hsm
  rw [decide_eq_true (show rx.map (·.2) = rz.map (·.2) by rw [hmx, hmz, g4])] at kR3
  repeat' (first | refine C.seq ?_ | refine C.region ?_ | refine L.nil ?_ | refine D.seq ?_ | refine L.move (k := ?_) | refine L.assign (k := ?_) | refine L.cm (c := ?_) | refine L.extract (c := ?_) | refine L.pickT (k := ?_) | refine L.want (k := ?_) | refine C.ret ?_ | refine D.seqR (h := ?_) | refine L.callQ kR2 (hpre := fun w1 hw => ⟨rX9.at hw, rY9.at hw⟩) (k := ?_) | refine L.callQ kR3 (hpre := fun w1 hw => ⟨rX9.at hw, rZ.at hw⟩) (k := ?_))
  (refine D.ret (vs := [_]) (RV.tmp rfl RV.nil) ?_; intro w' hw; exact Post.mkD 0 (bk9 _ _ hw) rfl ⟨rfl, rfl⟩)
theorem unused_walk (v : Value) (regs : Int) (vb vo : Value) (bs : List Bf) (os : List Lop) (u : Value) (rs : Rws) (aT : Int) (wa : (Lit.int .i64 aT).wf = true) (nT : Int) (wn : (Lit.int .u64 nT).wf = true) (w : World) (hp : Prog w v regs vb vo bs os) (hq : RowsA w u rs) :
    Calls Try.prog 9 #[v, u, .int .i64 aT, .int .u64 nT] w fun e w' => e = .returned (.bool true) ∧ Below w.heap.size w w' := by
  obtain ⟨rfl, _, _, ook, hbl, hol, rb, ro⟩ := hp
  exact (unusedLaw_S regs vb vo u bs os rs aT nT hbl hol hq.len (fun o ho => (ook o ho).imm.w) (fun r hr x hx => ((hq.ok r hr).1 x hx).w) (int_of_wf wa) (u64_of_wf wn).w).true w ⟨⟨rb, ro⟩, hq.rd⟩
end Go.Proofs.Ytkjlgapkcdcmgaa
