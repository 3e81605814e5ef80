/- Listing: the law ListingBack: a row's text is read as the row (plain); the law's walk. Conditions: the library's tables and errors as laid. -/
import Derived.Test.YtokcamgipnaoeaaGreatDoorLsJ
import Derived.Test.YtokcamgipnaoeaaGreatDoorLsR
import Derived.Test.YtokcamgipnaoeaaGreatDoorML
set_option linter.unusedVariables false
set_option linter.unusedSimpArgs false
namespace Go.Proofs.YtokcamgipnaoeaaGreatDoor.Ls
open Go Go.RowKit SL Go.Shelf
attribute [local irreducible] SL.L SL.C SL.D SL.N SL.H SL.QL SL.QW SL.QP

theorem lines_back : ∀ (l : List Ins) (f : Nat), (∀ i ∈ l, i.ok) → l.all Ins.chk = true → (catT l).length < f → linesF f (catT l) = (some l, l.length)
  | _, 0, _, _, h => by omega
  | [], f + 1, _, _, _ => rfl
  | i :: r, f + 1, ho, hc, hf => by
    have hci : i.chk = true := by simpa using (List.all_eq_true.1 hc i List.mem_cons_self)
    have hio := ho i List.mem_cons_self
    have hcr : r.all Ins.chk = true := List.all_eq_true.2 fun x hx => List.all_eq_true.1 hc x (List.mem_cons_of_mem _ hx)
    have hcat : catT (i :: r) = instT i ++ [10] ++ catT r := rfl
    have hcut := cut_hit (instT i) (catT r) 10 [] (inst_no10 i hio hci)
    have hne : instT i ++ [10] ++ catT r ≠ [] := by simp
    have hlen : (catT r).length < f := by rw [hcat] at hf; simp only [List.length_append, List.length_cons, List.length_nil] at hf; omega
    unfold linesF
    rw [hcat, if_neg hne, hcut]
    simp only [if_true]
    rw [read_back i hio hci]
    simp only
    rw [lines_back r f (fun x hx => ho x (List.mem_cons_of_mem _ hx)) hcr hlen]
    rfl
theorem eqI (i : Ins) : eqK [.int .i64, .int .i64, .int .i64, .int .i64, .int .i64, .int .i64, .int .i64, .int .i64, .int .i64] i.cells i.cells = some true := by
  simp [eqK, eqL]
theorem eqI_ne (i k : Ins) (h : i ≠ k) : eqK [.int .i64, .int .i64, .int .i64, .int .i64, .int .i64, .int .i64, .int .i64, .int .i64, .int .i64] i.cells k.cells = some false := by
  obtain ⟨a1, a2, a3, a4, a5, a6, a7, a8, a9⟩ := i
  obtain ⟨b1, b2, b3, b4, b5, b6, b7, b8, b9⟩ := k
  refine congrArg some (?_ : (a1 == b1 && (a2 == b2 && (a3 == b3 && (a4 == b4 && (a5 == b5 && (a6 == b6 && (a7 == b7 && (a8 == b8 && (a9 == b9 && true))))))))) = false)
  refine Bool.eq_false_iff.2 fun e => h ?_
  simp only [Bool.and_eq_true, beq_iff_eq, Bool.and_true] at e
  simp [e]
theorem rcheck_L (i : Ins) : Ctr Tryz.prog 15 [i.val] [] tt (is (.int .i64 (errOf i.chk)) []) :=
  spec_n (fun w _ => rcheck_any i.op i.d i.s i.t i.mb i.mi i.ms i.md i.im w)
set_option maxHeartbeats 2000000 in
theorem sameI_S (v u : Value) (xs : List Ins) (hb : xs.length ≤ 1000000) : Ctr Tryz.prog 14 [v, u] []
    (fun w => Rd w [] v xs.length (xs.flatMap encI) ∧ Rd w [] u xs.length (xs.flatMap encI)) (is (.bool true) []) := by
  refine Ctr.enter Tryz.func14 Tryz.ntmps14 rfl rfl (fun w hr => ?_)
  have s1 := hr.1.1
  have s2 := hr.2.1
  have c0 : cm .neq (xs.length : Int) xs.length = false := cm_ne' rfl
  repeat' (first | refine C.seq ?_ | refine C.region ?_ | refine L.nil ?_ | refine D.seq ?_ | refine L.move (k := ?_) | refine L.assign (k := ?_) | refine L.cm (c := ?_) | refine C.no (h1 := ?_) | refine C.block ?_ | refine C.skip ?_ | refine L.lenR s1 (c := ?_) | refine L.lenR s2 (c := ?_))
  refine C.loop (α := Nat) (fun i => i ≤ xs.length) (fun i => [(0, v), (1, u), (5, .int .i64 i)]) (fun _ => []) (fun i => xs.length - i) 0
    (fun a w hs => hs.lessE rfl (lk_cons rfl (lk_cons rfl (lk_cons rfl (fun _ _ h => lk_nil h))))) (Nat.zero_le _) ?_
  intro i hi
  rcases Nat.lt_or_ge i xs.length with hlt | hge
  · have c1 : cm .lss (i : Int) xs.length = true := cm_lo (by omega)
    obtain ⟨x, hx⟩ : ∃ x, xs[i]? = some x := ⟨_, List.getElem?_eq_getElem hlt⟩
    have o1 := hr.1.2 (by omega)
    have o2 := hr.2.2 (by omega)
    have c2 : ar .add .i64 (i : Int) 1 = ((i + 1 : Nat) : Int) := i64_add (b := 1) (by omega)
    have k1 := flat_at encI_len hx
    have k2 : ((xs.flatMap encI).drop (i * 9)).take 9 = x.cells := k1.1
    have c3 := eqI x
    repeat' (first | refine C.seq ?_ | refine C.region ?_ | refine L.nil ?_ | refine D.seq ?_ | refine L.move (k := ?_) | refine L.assign (k := ?_) | refine L.cm (c := ?_) | refine L.ar (c := ?_) | refine C.yes (h1 := ?_) | refine C.no (h1 := ?_) | refine C.block ?_ | refine D.blkNormal ?_ | refine C.skip ?_ | refine L.neA (c := ?_) | exact D.endsQ | refine QL.fin ?_ | refine C.quiet (h := ?_) | (refine QL.step (v := ?_) (by exact rfl) (by exact rfl) ?_ ?_; rotate_left) | refine L.lenR s1 (c := ?_) | refine L.lenR s2 (c := ?_) | refine L.indexR s1 hlt (c := ?_) | refine L.indexR s2 hlt (c := ?_) | refine L.loadOA o1 (i := i * 9) (ho := rfl) (hi := k1.2) (hcs := k2) (c := ?_) | refine L.loadOA o2 (i := i * 9) (ho := rfl) (hi := k1.2) (hcs := k2) (c := ?_))
    exact D.then_ fun a1 w1 hs => ⟨i + 1, by omega, by omega, hs.lessE rfl (lk_cons rfl (lk_cons rfl (lk_cons rfl (fun _ _ h => lk_nil h))))⟩
  · have c1 : cm .lss (i : Int) xs.length = false := cm_lo' (by omega)
    repeat' (first | refine C.seq ?_ | refine C.region ?_ | refine L.nil ?_ | refine D.seq ?_ | refine L.move (k := ?_) | refine L.assign (k := ?_) | refine L.cm (c := ?_) | refine C.no (h1 := ?_) | refine C.ret ?_ | refine C.exit ?_ | refine D.thenExit ?_ | refine D.blkExit ?_ | refine L.lenR s1 (c := ?_) | refine L.lenR s2 (c := ?_))
    (refine D.ret (vs := [_]) (RV.tmp rfl RV.nil) ?_; intro w' hw; exact Post.mk (is := []) hw List.nodup_nil rfl ⟨rfl, rfl⟩)
/-- What Inst tells, in one form. -/
def outT (i : Ins) : List UInt8 := if i.chk then instT i else []
theorem inst_O (i : Ins) (h : i.ok) : Ctr Tryz.prog 6 [i.val] [] Tab (two (tx (outT i)) (.int .i64 (errOf i.chk))) := by
  have := inst_S i h
  unfold instR at this
  unfold outT
  cases hc : i.chk <;> (rw [hc] at this; exact this)
set_option maxRecDepth 100000 in
set_option maxHeartbeats 32000000 in
theorem back_S (a b : Ins) (v : Value) (l : List Ins) (ha : a.ok) (hb : b.ok) (hl : ∀ x ∈ l, x.ok) : Ctr Tryz.prog 4 [a.val, b.val, v] [] (fun w => Lw w ∧ Rd w [] v l.length (l.flatMap encI)) (is (.bool true) []) := by
  refine Ctr.enter Tryz.func4 Tryz.ntmps4 rfl rfl (fun w h0 => ?_)
  obtain ⟨hx, hr⟩ := h0
  have sv := hr.1
  have hL := lives_S
  by_cases h30 : 30 < l.length
  · have c1 : cm .gtr (l.length : Int) 30 = true := cm_gt (by omega)
    repeat (first | refine C.seq ?_ | refine C.region ?_ | refine L.nil ?_ | refine D.seq ?_ | refine L.move (k := ?_) | refine L.assign (k := ?_) | refine L.cm (c := ?_) | refine L.box (c := fun _ => ?_) | refine C.yes (h1 := ?_) | refine C.no (h1 := ?_) | refine L.not (c := ?_) | refine C.ret ?_ | refine D.thenRet ?_ | refine C.skip ?_ | refine L.lenR sv (c := ?_) | refine L.callQ hL (hpre := fun _ hw => (hx.bel hw).1) (k := ?_))
    (refine D.ret (vs := [_]) (RV.tmp rfl RV.nil) ?_; intro w' hw; exact Post.mk (is := []) hw List.nodup_nil rfl ⟨rfl, rfl⟩)
  have c1 : cm .gtr (l.length : Int) 30 = false := cm_gt' (by omega)
  have hA := inst_O a ha
  have hB := inst_O b hb
  have hC := rcheck_L a
  obtain ⟨ea, hea⟩ : ∃ ea, ea = errOf a.chk := ⟨_, rfl⟩
  obtain ⟨ta, hta⟩ : ∃ ta, ta = outT a := ⟨_, rfl⟩
  rw [← hea, ← hta] at hA
  rw [← hea] at hC
  have c2 : (cm .eql ea 0 != cm .eql ea 0) = false := by simp
  repeat (first | refine C.seq ?_ | refine C.region ?_ | refine L.nil ?_ | refine D.seq ?_ | refine L.move (k := ?_) | refine L.assign (k := ?_) | refine L.cm (c := ?_) | refine L.loadA 1 (c := ?_) | refine L.box (c := fun _ => ?_) | refine C.no (h1 := ?_) | refine L.not (c := ?_) | refine C.skip ?_ | refine L.lenR sv (c := ?_) | refine L.callQ hL (hpre := fun _ hw => (hx.bel hw).1) (k := ?_))
  rename_i b3 b4
  refine L.callP [] hA (hpre := fun _ hw => (hx.bel hw).1) (k := ?_)
  rintro u B ⟨rfl, rfl⟩
  rw [hdrop_nil, List.nil_append]
  repeat (first | refine C.seq ?_ | refine C.region ?_ | refine L.nil ?_ | refine D.seq ?_ | refine L.move (k := ?_) | refine L.assign (k := ?_) | refine L.loadA 0 (c := ?_) | refine L.extract (c := ?_))
  refine L.callP [] hB (hpre := fun _ hw => (hx.bel hw).1) (k := ?_)
  rintro u B ⟨rfl, rfl⟩
  rw [hdrop_nil, List.nil_append]
  repeat (first | refine C.seq ?_ | refine C.region ?_ | refine L.nil ?_ | refine D.seq ?_ | refine L.move (k := ?_) | refine L.assign (k := ?_) | refine L.cm (c := ?_) | refine L.loadA 1 (c := ?_) | refine L.extract (c := ?_) | refine C.no (h1 := ?_) | refine C.skip ?_ | refine L.neB (c := ?_) | refine L.callQ (hC) (k := ?_))
  refine C.joinK (fun _ : Unit => True) (fun _ => [(2, v)]) (fun _ => []) ?_ ?_
  · refine C.condE (h1 := fun hc => ?_) (h2 := fun hc => ?_)
    · have hca : a.chk = true := by
        cases h : a.chk with
        | true => rfl
        | false =>
          have hc : (ea == 0) = true := hc
          rw [hea, h] at hc
          cases hc
      have hte : ta = instT a := by rw [hta]; unfold outT; rw [if_pos hca]
      have hR := read_I (instT a) (by have := instT_len a ha; omega)
      rw [read_back a ha hca, ← hte] at hR
      have heq := eqI a
      have c3 : cm .neq 0 0 = false := rfl
      cases hcb : b.chk with
      | false =>
        have c4 : cm .eql (errOf false) 0 = false := rfl
        repeat (first | refine C.seq ?_ | refine C.region ?_ | refine L.move (k := ?_))
        refine L.callP [] hR (hpre := fun _ hw => hx.bel hw) (k := ?_)
        rintro u B ⟨rfl, rfl⟩
        rw [hdrop_nil, List.nil_append]
        repeat (first | refine C.seq ?_ | refine C.region ?_ | refine L.nil ?_ | refine D.seq ?_ | refine L.move (k := ?_) | refine L.assign (k := ?_) | refine L.cm (c := ?_) | refine L.loadA 0 (c := ?_) | refine L.loadA 2 (c := ?_) | refine L.storeV 0 (c := ?_) | refine L.extract (c := ?_) | refine L.alloc (c := fun _ => ?_) | refine C.no (h1 := ?_) | refine L.pickF (k := ?_) | refine L.want (k := ?_) | refine L.pass (k := ?_) | refine C.skip ?_ | refine L.neA (c := ?_))
        exact D.then_ fun a1 w1 hs => ⟨(), trivial, hs.lessD 3 rfl (lk_cons rfl (fun _ _ h => lk_nil h))⟩
      | true =>
        have c4 : cm .eql (errOf true) 0 = true := rfl
        have hob : outT b = instT b := by unfold outT; rw [if_pos hcb]
        have hsq := seq_tx ta (outT b)
        by_cases hab : a = b
        · have e1 : decide (ta = outT b) = true := by rw [hob, hte, hab]; simp
          rw [e1] at hsq
          have heb : eqK [.int .i64, .int .i64, .int .i64, .int .i64, .int .i64, .int .i64, .int .i64, .int .i64, .int .i64] a.cells b.cells = some true := by rw [← hab]; exact eqI a
          repeat (first | refine C.seq ?_ | refine C.region ?_ | refine L.move (k := ?_))
          refine L.callP [] hR (hpre := fun _ hw => hx.bel hw) (k := ?_)
          rintro u B ⟨rfl, rfl⟩
          rw [hdrop_nil, List.nil_append]
          repeat (first | refine C.seq ?_ | refine C.region ?_ | refine L.nil ?_ | refine D.seq ?_ | refine L.move (k := ?_) | refine L.assign (k := ?_) | refine L.cm (c := ?_) | refine L.loadA 0 (c := ?_) | refine L.loadA 1 (c := ?_) | refine L.loadA 2 (c := ?_) | refine L.storeV 0 (c := ?_) | refine L.extract (c := ?_) | refine L.alloc (c := fun _ => ?_) | refine C.no (h1 := ?_) | refine L.pickT (k := ?_) | refine L.pickF (k := ?_) | refine L.want (k := ?_) | refine L.strEq (c := ?_) | refine C.skip ?_ | refine L.eqA (c := ?_) | refine L.neA (c := ?_) | refine L.neB (c := ?_))
          exact D.then_ fun a1 w1 hs => ⟨(), trivial, hs.lessD 3 rfl (lk_cons rfl (fun _ _ h => lk_nil h))⟩
        · have e1 : decide (ta = outT b) = false := by
            rw [decide_eq_false_iff_not, hob, hte]
            exact fun e => hab (inst_inj a b ha hb hca hcb e)
          rw [e1] at hsq
          have heb := eqI_ne a b hab
          repeat (first | refine C.seq ?_ | refine C.region ?_ | refine L.move (k := ?_))
          refine L.callP [] hR (hpre := fun _ hw => hx.bel hw) (k := ?_)
          rintro u B ⟨rfl, rfl⟩
          rw [hdrop_nil, List.nil_append]
          repeat (first | refine C.seq ?_ | refine C.region ?_ | refine L.nil ?_ | refine D.seq ?_ | refine L.move (k := ?_) | refine L.assign (k := ?_) | refine L.cm (c := ?_) | refine L.loadA 0 (c := ?_) | refine L.loadA 1 (c := ?_) | refine L.loadA 2 (c := ?_) | refine L.storeV 0 (c := ?_) | refine L.extract (c := ?_) | refine L.alloc (c := fun _ => ?_) | refine C.no (h1 := ?_) | refine L.pickT (k := ?_) | refine L.pickF (k := ?_) | refine L.want (k := ?_) | refine L.strEq (c := ?_) | refine C.skip ?_ | refine L.eqA (c := ?_) | refine L.neA (c := ?_) | refine L.neB (c := ?_))
          exact D.then_ fun a1 w1 hs => ⟨(), trivial, hs.lessD 3 rfl (lk_cons rfl (fun _ _ h => lk_nil h))⟩
    · repeat (first | refine C.skip ?_)
      exact D.then_ fun a1 w1 hs => ⟨(), trivial, hs.lessD 2 rfl (lk_cons rfl (fun _ _ h => lk_nil h))⟩
  · intro _ _
    have hAl := all_S v l hl (by omega)
    by_cases hch : l.all Ins.chk = true
    · have hall : allF l = some (catT l) := by unfold allF; rw [if_pos hch]
      rw [hall] at hAl
      have hcl := catT_len l hl
      have hRA := readAll_S (catT l) (by omega)
      rw [lines_back l _ hl hch (Nat.lt_succ_self _)] at hRA
      have c3 : cm .neq 0 0 = false := rfl
      have c4 : cm .eql 0 0 = true := rfl
      have c5 : cm .eql ((l.length : Nat) : Int) (l.length : Int) = true := cm_yes rfl
      repeat (first | refine C.seq ?_ | refine C.region ?_ | refine L.move (k := ?_))
      refine L.callP [] hAl (hpre := fun _ hw => ⟨hr.at hw, (hx.bel hw).1⟩) (k := ?_)
      rintro u B ⟨rfl, rfl⟩
      rw [hdrop_nil, List.nil_append]
      repeat (first | refine C.seq ?_ | refine C.region ?_ | refine L.nil ?_ | refine D.seq ?_ | refine L.move (k := ?_) | refine L.assign (k := ?_) | refine L.cm (c := ?_) | refine L.extract (c := ?_) | refine C.no (h1 := ?_) | refine C.skip ?_)
      refine L.callP [] hRA (hpre := fun _ hw => hx.bel hw) (k := ?_)
      rintro u B ⟨y, hG, rfl, rfl⟩
      rw [hdrop_nil]
      simp only [shut]
      refine L.base (osC 25 y []) (M' := []) rfl (fun w1 h1 => ?_)
      have r1 : Rd w1 [] (osV l.length y) l.length (l.flatMap encI) := hG.rdm (T := 25) h1 (fun x hx => List.mem_append_left _ hx)
      have hr1 := hr.at h1
      have hS := sameI_S (osV l.length y) v l (by omega)
      generalize osV l.length y = v1 at *
      repeat (first | refine C.seq ?_ | refine C.region ?_ | refine L.nil ?_ | refine D.seq ?_ | refine L.move (k := ?_) | refine L.assign (k := ?_) | refine L.cm (c := ?_) | refine L.extract (c := ?_) | refine L.pickT (k := ?_) | refine L.want (k := ?_) | refine C.ret ?_ | refine D.seqR (h := ?_) | refine L.lenR sv (c := ?_) | refine L.callQ hS (hpre := fun _ hw => ⟨r1.at hw, hr1.at hw⟩) (k := ?_))
      (refine D.ret (vs := [_]) (RV.tmp rfl RV.nil) ?_; intro w' hw; exact Post.mk (is := []) (At.back h1 hw) List.nodup_nil rfl ⟨rfl, rfl⟩)
    · have hall : allF l = none := by unfold allF; rw [if_neg hch]
      rw [hall] at hAl
      have c3 : cm .neq 2 0 = true := rfl
      have hsq := seq_tx [] []
      rw [decide_eq_true rfl] at hsq
      repeat (first | refine C.seq ?_ | refine C.region ?_ | refine L.move (k := ?_))
      refine L.callP [] hAl (hpre := fun _ hw => ⟨hr.at hw, (hx.bel hw).1⟩) (k := ?_)
      rintro u B ⟨rfl, rfl⟩
      rw [hdrop_nil, List.nil_append]
      repeat (first | refine C.seq ?_ | refine C.region ?_ | refine L.nil ?_ | refine D.seq ?_ | refine L.move (k := ?_) | refine L.assign (k := ?_) | refine L.cm (c := ?_) | refine L.extract (c := ?_) | refine C.yes (h1 := ?_) | refine L.strEq (c := ?_) | refine C.ret ?_ | refine D.thenRet ?_)
      (refine D.ret (vs := [_]) (RV.tmp rfl RV.nil) ?_; intro w' hw; exact Post.mk (is := []) hw List.nodup_nil rfl ⟨rfl, rfl⟩)
end Go.Proofs.YtokcamgipnaoeaaGreatDoor.Ls
