/- Listing, the document's answer: mem: what it answers. No condition. -/
import Derived.Test.YtokcamgipnaoeaaGreatDoorLsRb
set_option linter.unusedVariables false
set_option linter.unusedSimpArgs false
namespace Go.Proofs.YtokcamgipnaoeaaGreatDoor.Ls
open Go Go.RowKit SL Go.Shelf
attribute [local irreducible] SL.L SL.C SL.D SL.N SL.H SL.QL SL.QW SL.QP

def memA (t : List UInt8) (at_ : Int) : Int × List UInt8 := if 0 ≤ at_ ∧ (numR (t.drop at_.toNat)).2 = true then ((numR (t.drop at_.toNat)).1, t.take at_.toNat) else (0, t)
def memB (e : List UInt8) : Int × Int × Int :=
  if 0 ≤ find e 43 then
    (if 0 ≤ find (e.drop ((find e 43).toNat + 1)) 42 then (regOf (e.take (find e 43).toNat), regOf ((e.drop ((find e 43).toNat + 1)).drop ((find (e.drop ((find e 43).toNat + 1)) 42).toNat + 1)), (numR ((e.drop ((find e 43).toNat + 1)).take (find (e.drop ((find e 43).toNat + 1)) 42).toNat)).1)
     else (regOf (e.take (find e 43).toNat), -1, 1))
  else (regOf e, -1, 1)
def inn (s : List UInt8) : List UInt8 := (s.drop 1).take (s.length - 1 - 1)
def memE (s : List UInt8) : Int × List UInt8 := memA (inn s) (lastS (inn s) (inn s).length)
/-- The place that mem reads. -/
def memR (s : List UInt8) : Opd := .m (memB (memE s).2).1 (memB (memE s).2).2.1 (memB (memE s).2).2.2 (memE s).1
def memRV (s : List UInt8) : Value := memV (memB (memE s).2).1 (memB (memE s).2).2.1 (memB (memE s).2).2.2 (memE s).1
set_option maxRecDepth 100000 in
set_option maxHeartbeats 16000000 in
theorem mem_R (s : List UInt8) (hs : s.length ≤ 1000000) (h1 : 1 < s.length) : Ctr Tryz.prog 55 [tx s] [] tt (is (memRV s) []) := by
  unfold memRV memE
  have d0 : ar .sub .i64 (s.length : Int) 1 = ((s.length - 1 : Nat) : Int) := i64_sub (b := 1) (by omega) (by omega)
  have hti : (s.drop 1).take (s.length - 1 - 1) = inn s := rfl
  have htl : (inn s).length ≤ 1000000 := by unfold inn; rw [List.length_take, List.length_drop]; omega
  generalize inn s = t at *
  refine Ctr.enter Tryz.func55 Tryz.ntmps55 rfl rfl (fun w _ => ?_)
  refine C.seq ?_
  repeat (first | refine C.region ?_ | refine L.nil ?_ | refine D.seq ?_ | refine L.alloc (c := fun _ => ?_))
  refine C.seq ?_
  repeat (first | refine C.region ?_ | refine L.nil ?_ | refine D.seq ?_ | refine L.storeV 0 (c := ?_) | refine L.build (c := ?_) | refine L.alloc (c := fun _ => ?_))
  rename_i b2 b3
  refine C.seq ?_
  repeat (first | refine L.txLen (c := ?_) | refine L.txCut (a := s) (lo := 1) (hi := s.length - 1) (r := t) (by omega) (by omega) hti (c := ?_) | refine C.region ?_ | refine L.nil ?_ | refine D.seq ?_ | refine L.move (k := ?_) | refine L.assign (k := ?_) | refine L.ar (c := ?_))
  refine C.seq ?_
  repeat (first | refine L.txLen (c := ?_) | refine C.region ?_ | refine L.nil ?_ | refine D.seq ?_ | refine L.move (k := ?_) | refine L.assign (k := ?_))
  refine C.seq ?_
  obtain ⟨R, hR⟩ : ∃ R, R = memA t (lastS t t.length) := ⟨_, rfl⟩
  rw [← hR]
  refine C.joinK (fun _ : Unit => True) (fun _ => [(0, tx t), (2, .pointer (some ⟨b2, 0, none⟩)), (3, .pointer (some ⟨b3, 0, none⟩)), (4, .int .i64 (R.2.length : Int))]) (fun _ => [(b3, ob [.int .i64 0, .int .i64 (-1), .int .i64 1, .int .i64 R.1] 23), (b2, ob [.int .i64 0, .int .i64 0, .int .i64 0, .int .i64 0] 23)]) ?_ ?_
  · have d1 := sub1 (n := t.length) (by omega)
    repeat (first | refine L.txLen (c := ?_) | refine C.seq ?_ | refine C.region ?_ | refine L.nil ?_ | refine D.seq ?_ | refine L.move (k := ?_) | refine L.assign (k := ?_) | refine L.ar (c := ?_) | refine C.block ?_)
    refine C.loop (α := Nat) (fun n => n ≤ t.length ∧ lastS t t.length = lastS t n) (fun n => [(0, tx t), (2, .pointer (some ⟨b2, 0, none⟩)), (3, .pointer (some ⟨b3, 0, none⟩)), (4, .int .i64 (t.length : Int)), (5, .int .i64 ((n : Int) - 1))]) (fun _ => [(b3, ob [.int .i64 0, .int .i64 (-1), .int .i64 1, .int .i64 0] 23), (b2, ob [.int .i64 0, .int .i64 0, .int .i64 0, .int .i64 0] 23)]) (fun n => n) t.length
      (fun a w hs => hs.lessE rfl (lk_cons rfl (lk_cons rfl (lk_cons rfl (lk_cons rfl (lk_cons rfl (fun _ _ h => lk_nil h))))))) ⟨Nat.le_refl _, rfl⟩ ?_
    rintro n ⟨hn, hnS⟩
    (try dsimp only)
    cases n with
    | zero =>
      have c4 : cm .geq (((0 : Nat) : Int) - 1) 0 = false := rfl
      have hR2 : R = (0, t) := by
        have e0 : lastS t t.length = -1 := hnS
        rw [hR, e0]; unfold memA; rw [if_neg (fun h => absurd h.1 (by decide))]
      rw [hR2]
      repeat (first | refine L.txLen (c := ?_) | refine C.seq ?_ | refine C.region ?_ | refine L.nil ?_ | refine D.seq ?_ | refine L.move (k := ?_) | refine L.cm (c := ?_) | refine C.no (h1 := ?_) | refine C.exit ?_ | refine D.thenExit ?_ | refine D.blkExit ?_)
      exact D.then_ fun a1 w1 hs => ⟨(), trivial, hs.lessE rfl (lk_cons rfl (lk_cons rfl (lk_cons rfl (lk_cons rfl (fun _ _ h => lk_nil h)))))⟩
    | succ n =>
      have c4 : cm .geq (((n + 1 : Nat) : Int) - 1) 0 = true := cm_ge (by omega)
      have hx : t[n]? = some (t.getD n 0) := by rw [List.getD_eq_getElem?_getD, List.getElem?_eq_getElem (by omega : n < t.length)]; rfl
      have hi : (((n + 1 : Nat) : Int) - 1) = (n : Int) := by omega
      have d2 := sub2 (n := n) (by omega)
      have hst : lastS t (n + 1) = if pm (t.getD n 0) then (n : Int) else lastS t n := rfl
      rw [hst] at hnS
      by_cases hp : pm (t.getD n 0) = true
      · rw [if_pos hp] at hnS
        have hNm := number_R (t.drop n) (by rw [List.length_drop]; omega)
        have hcut : (t.drop n).take (t.length - n) = t.drop n := by rw [List.take_of_length_le]; rw [List.length_drop]; omega
        have hRn : R = if (numR (t.drop n)).2 = true then ((numR (t.drop n)).1, t.take n) else (0, t) := by
          rw [hR, hnS]; unfold memA; rw [Int.toNat_natCast]
          by_cases hq : (numR (t.drop n)).2 = true
          · rw [if_pos ⟨by omega, hq⟩, if_pos hq]
          · rw [if_neg (fun h => hq h.2), if_neg hq]
        clear hR
        generalize hxe : t.getD n 0 = x at *
        have hx2 : x = 43 ∨ x = 45 := by unfold pm at hp; simpa using hp
        rw [hi]
        have key : ∀ b, (cm .eql (x.toNat : Int) 43 = b) → (b = true ∨ cm .eql (x.toNat : Int) 45 = true) := by
          intro b hb; rcases hx2 with h | h
          · left; rw [← hb, h]; rfl
          · right; rw [h]; rfl
        cases hq : (numR (t.drop n)).2 with
        | true =>
          rw [hq] at hNm
          rw [if_pos hq] at hRn
          have hl : (t.take n).length = n := by rw [List.length_take]; omega
          rcases hx2 with h | h
          · have c5 : cm .eql (x.toNat : Int) 43 = true := by rw [h]; rfl
            repeat (first | refine L.txLen (c := ?_) | refine C.seq ?_ | refine C.region ?_ | refine L.nil ?_ | refine D.seq ?_ | refine L.move (k := ?_) | refine L.cm (c := ?_) | refine C.yes (h1 := ?_) | refine L.pickT (k := ?_) | refine L.pass (k := ?_) | refine C.block ?_ | refine C.skip ?_ | refine L.txAt (k := n) (a := t) (v := x) rfl hx (c := ?_) | refine L.txCut (a := t) (lo := n) (hi := t.length) (r := t.drop n) (by omega) (Nat.le_refl _) hcut (c := ?_))
            refine L.callP [] hNm (k := ?_)
            rintro u B ⟨rfl, rfl⟩
            rw [hdrop_nil, List.nil_append]
            repeat (first | refine C.seq ?_ | refine C.region ?_ | refine L.nil ?_ | refine D.seq ?_ | refine L.move (k := ?_) | refine L.assign (k := ?_) | refine L.fieldAddr (c := ?_) | refine L.storeV 0 (c := ?_) | refine L.extract (c := ?_) | refine C.yes (h1 := ?_) | refine C.exit ?_ | refine D.thenExit ?_ | refine D.blkExit ?_ | refine D.blkOther (h := ?_))
            exact D.then_ fun a1 w1 hs => ⟨(), trivial, by rw [hRn]; simp only [hl]; exact hs.lessE rfl (lk_cons rfl (lk_cons rfl (lk_cons rfl (lk_cons rfl (fun _ _ h => lk_nil h)))))⟩
          · have c5 : cm .eql (x.toNat : Int) 43 = false := by rw [h]; rfl
            have c6 : cm .eql (x.toNat : Int) 45 = true := by rw [h]; rfl
            repeat (first | refine L.txLen (c := ?_) | refine C.seq ?_ | refine C.region ?_ | refine L.nil ?_ | refine D.seq ?_ | refine L.move (k := ?_) | refine L.cm (c := ?_) | refine C.yes (h1 := ?_) | refine L.pickF (k := ?_) | refine L.want (k := ?_) | refine C.block ?_ | refine C.skip ?_ | refine L.txAt (k := n) (a := t) (v := x) rfl hx (c := ?_) | refine L.txCut (a := t) (lo := n) (hi := t.length) (r := t.drop n) (by omega) (Nat.le_refl _) hcut (c := ?_))
            refine L.callP [] hNm (k := ?_)
            rintro u B ⟨rfl, rfl⟩
            rw [hdrop_nil, List.nil_append]
            repeat (first | refine C.seq ?_ | refine C.region ?_ | refine L.nil ?_ | refine D.seq ?_ | refine L.move (k := ?_) | refine L.assign (k := ?_) | refine L.fieldAddr (c := ?_) | refine L.storeV 0 (c := ?_) | refine L.extract (c := ?_) | refine C.yes (h1 := ?_) | refine C.exit ?_ | refine D.thenExit ?_ | refine D.blkExit ?_ | refine D.blkOther (h := ?_))
            exact D.then_ fun a1 w1 hs => ⟨(), trivial, by rw [hRn]; simp only [hl]; exact hs.lessE rfl (lk_cons rfl (lk_cons rfl (lk_cons rfl (lk_cons rfl (fun _ _ h => lk_nil h)))))⟩
        | false =>
          rw [hq] at hNm
          rw [if_neg (by rw [hq]; decide)] at hRn
          rcases hx2 with h | h
          · have c5 : cm .eql (x.toNat : Int) 43 = true := by rw [h]; rfl
            repeat (first | refine L.txLen (c := ?_) | refine C.seq ?_ | refine C.region ?_ | refine L.nil ?_ | refine D.seq ?_ | refine L.move (k := ?_) | refine L.cm (c := ?_) | refine C.yes (h1 := ?_) | refine L.pickT (k := ?_) | refine L.pass (k := ?_) | refine C.block ?_ | refine C.skip ?_ | refine L.txAt (k := n) (a := t) (v := x) rfl hx (c := ?_) | refine L.txCut (a := t) (lo := n) (hi := t.length) (r := t.drop n) (by omega) (Nat.le_refl _) hcut (c := ?_))
            refine L.callP [] hNm (k := ?_)
            rintro u B ⟨rfl, rfl⟩
            rw [hdrop_nil, List.nil_append]
            repeat (first | refine C.seq ?_ | refine C.region ?_ | refine L.nil ?_ | refine D.seq ?_ | refine L.move (k := ?_) | refine L.assign (k := ?_) | refine L.extract (c := ?_) | refine C.no (h1 := ?_) | refine C.exit ?_ | refine D.thenExit ?_ | refine D.blkExit ?_ | refine D.blkOther (h := ?_) | refine C.skip ?_)
            exact D.then_ fun a1 w1 hs => ⟨(), trivial, by rw [hRn]; exact hs.lessE rfl (lk_cons rfl (lk_cons rfl (lk_cons rfl (lk_cons rfl (fun _ _ h => lk_nil h)))))⟩
          · have c5 : cm .eql (x.toNat : Int) 43 = false := by rw [h]; rfl
            have c6 : cm .eql (x.toNat : Int) 45 = true := by rw [h]; rfl
            repeat (first | refine L.txLen (c := ?_) | refine C.seq ?_ | refine C.region ?_ | refine L.nil ?_ | refine D.seq ?_ | refine L.move (k := ?_) | refine L.cm (c := ?_) | refine C.yes (h1 := ?_) | refine L.pickF (k := ?_) | refine L.want (k := ?_) | refine C.block ?_ | refine C.skip ?_ | refine L.txAt (k := n) (a := t) (v := x) rfl hx (c := ?_) | refine L.txCut (a := t) (lo := n) (hi := t.length) (r := t.drop n) (by omega) (Nat.le_refl _) hcut (c := ?_))
            refine L.callP [] hNm (k := ?_)
            rintro u B ⟨rfl, rfl⟩
            rw [hdrop_nil, List.nil_append]
            repeat (first | refine C.seq ?_ | refine C.region ?_ | refine L.nil ?_ | refine D.seq ?_ | refine L.move (k := ?_) | refine L.assign (k := ?_) | refine L.extract (c := ?_) | refine C.no (h1 := ?_) | refine C.exit ?_ | refine D.thenExit ?_ | refine D.blkExit ?_ | refine D.blkOther (h := ?_) | refine C.skip ?_)
            exact D.then_ fun a1 w1 hs => ⟨(), trivial, by rw [hRn]; exact hs.lessE rfl (lk_cons rfl (lk_cons rfl (lk_cons rfl (lk_cons rfl (fun _ _ h => lk_nil h)))))⟩
      · rw [if_neg hp] at hnS
        generalize hxe : t.getD n 0 = x at *
        have hx2 : x ≠ 43 ∧ x ≠ 45 := by
          have : pm x = false := by simpa using hp
          unfold pm at this; simpa using this
        have c5 : cm .eql (x.toNat : Int) 43 = false := cm_no (fun e => hx2.1 (UInt8.toNat_inj.1 (by show x.toNat = 43; omega)))
        have c6 : cm .eql (x.toNat : Int) 45 = false := cm_no (fun e => hx2.2 (UInt8.toNat_inj.1 (by show x.toNat = 45; omega)))
        repeat (first | refine L.txLen (c := ?_) | refine C.seq ?_ | refine C.region ?_ | refine L.nil ?_ | refine D.seq ?_ | refine L.move (k := ?_) | refine L.assign (k := ?_) | refine L.cm (c := ?_) | refine L.ar (c := ?_) | refine C.yes (h1 := ?_) | refine C.no (h1 := ?_) | refine L.pickF (k := ?_) | refine L.want (k := ?_) | refine C.block ?_ | refine D.blkNormal ?_ | refine C.skip ?_ | refine L.txAt (k := n) (a := t) (v := x) hi hx (c := ?_))
        exact D.then_ fun a1 w1 hs => ⟨n, ⟨by omega, hnS⟩, by omega, hs.lessE rfl (lk_cons rfl (lk_cons rfl (lk_cons rfl (lk_cons rfl (lk_cons rfl (fun _ _ h => lk_nil h))))))⟩
  rintro _ _
  have hRl : R.2.length ≤ t.length ∧ (t.drop 0).take (R.2.length - 0) = R.2 := by
    rw [hR]; unfold memA
    split
    · rw [List.drop_zero, Nat.sub_zero]; simp only; rw [List.length_take]; refine ⟨by omega, ?_⟩
      rw [List.take_eq_take_iff]; omega
    · exact ⟨Nat.le_refl _, by simp⟩
  clear hR
  obtain ⟨md, e⟩ := R
  simp only at hRl ⊢
  obtain ⟨hel, hec⟩ := hRl
  have hF := find_S e 43 (by omega)
  have hfr := findF_range e 43 e.length 0
  have hfd : findF e 43 e.length 0 = find e 43 := rfl
  rw [hfd] at hfr
  unfold memB
  rcases hfr with hk | ⟨k, hk, _, hk2, _, _⟩
  · rw [hk] at hF ⊢
    have hRg := rreg_S e
    have c1 : cm .geq (-1) 0 = false := rfl
    rw [if_neg (by decide)]
    repeat (first | refine L.txLen (c := ?_) | refine C.seq ?_ | refine C.region ?_ | refine L.nil ?_ | refine D.seq ?_ | refine L.move (k := ?_) | refine L.assign (k := ?_) | refine L.cm (c := ?_) | refine L.fieldAddr (c := ?_) | refine L.loadA 0 (c := ?_) | refine L.storeV 0 (c := ?_) | refine L.storeV 1 (c := ?_) | refine C.no (h1 := ?_) | refine C.ret ?_ | refine C.skip ?_ | refine L.txCut (a := t) (lo := 0) (hi := e.length) (r := e) (Nat.zero_le _) hel hec (c := ?_) | refine L.callQ (hF) (k := ?_) | refine L.callQ (hRg) (k := ?_))
    refine D.ret (vs := [_]) (RV.cellA 1 rfl rfl rfl rfl rfl RV.nil) ?_
    intro w' hw; exact Post.mk (is := []) hw List.nodup_nil rfl ⟨rfl, rfl⟩
  · rw [hk] at hF ⊢
    have c1 : cm .geq (k : Int) 0 = true := cm_ge (by omega)
    have d1 : ar .add .i64 (k : Int) 1 = ((k + 1 : Nat) : Int) := i64_add (b := 1) (by omega)
    rw [if_pos (by omega), Int.toNat_natCast]
    have hRg := rreg_S (e.take k)
    obtain ⟨u, hu⟩ : ∃ u, u = e.drop (k + 1) := ⟨_, rfl⟩
    have q1 : (e.drop (k + 1)).take (e.length - (k + 1)) = u := by rw [hu, List.take_of_length_le]; rw [List.length_drop]; omega
    have q2 : (e.drop 0).take (k - 0) = e.take k := by rw [List.drop_zero, Nat.sub_zero]
    have hul : u.length ≤ 1000000 := by rw [hu, List.length_drop]; omega
    have hk1 : k + 1 ≤ e.length := by omega
    have hk0 : k ≤ e.length := by omega
    rw [← hu]
    clear hu
    have hF2 := find_S u 42 hul
    have hfr2 := findF_range u 42 u.length 0
    have hfd2 : findF u 42 u.length 0 = find u 42 := rfl
    rw [hfd2] at hfr2
    rcases hfr2 with hj | ⟨j, hj, _, hj2, _, _⟩
    · rw [hj] at hF2 ⊢
      have c2 : cm .geq (-1) 0 = false := rfl
      rw [if_neg (by decide)]
      repeat (first | refine L.txLen (c := ?_) | refine C.seq ?_ | refine C.region ?_ | refine L.nil ?_ | refine D.seq ?_ | refine L.move (k := ?_) | refine L.assign (k := ?_) | refine L.cm (c := ?_) | refine L.ar (c := ?_) | refine L.fieldAddr (c := ?_) | refine L.loadA 0 (c := ?_) | refine L.storeV 0 (c := ?_) | refine L.storeV 1 (c := ?_) | refine C.yes (h1 := ?_) | refine C.no (h1 := ?_) | refine C.ret ?_ | refine C.skip ?_ | refine L.txCut (a := t) (lo := 0) (hi := e.length) (r := e) (Nat.zero_le _) hel hec (c := ?_) | refine L.txCut (a := e) (lo := k + 1) (hi := e.length) (r := u) hk1 (Nat.le_refl _) q1 (c := ?_) | refine L.txCut (a := e) (lo := 0) (hi := k) (r := e.take k) (Nat.zero_le _) hk0 q2 (c := ?_) | refine L.callQ (hF) (k := ?_) | refine L.callQ (hF2) (k := ?_) | refine L.callQ (hRg) (k := ?_))
      refine D.ret (vs := [_]) (RV.cellA 1 rfl rfl rfl rfl rfl RV.nil) ?_
      intro w' hw; exact Post.mk (is := []) hw List.nodup_nil rfl ⟨rfl, rfl⟩
    · rw [hj] at hF2 ⊢
      have c2 : cm .geq (j : Int) 0 = true := cm_ge (by omega)
      have d2 : ar .add .i64 (j : Int) 1 = ((j + 1 : Nat) : Int) := i64_add (b := 1) (by omega)
      rw [if_pos (by omega), Int.toNat_natCast]
      have hNm := number_R (u.take j) (by rw [List.length_take]; omega)
      have hRg2 := rreg_S (u.drop (j + 1))
      have q3 : (u.drop (j + 1)).take (u.length - (j + 1)) = u.drop (j + 1) := by rw [List.take_of_length_le]; rw [List.length_drop]; omega
      have q4 : (u.drop 0).take (j - 0) = u.take j := by rw [List.drop_zero, Nat.sub_zero]
      have hj1 : j + 1 ≤ u.length := by omega
      have hj0 : j ≤ u.length := by omega
      repeat (first | refine L.txLen (c := ?_) | refine C.seq ?_ | refine C.region ?_ | refine L.nil ?_ | refine D.seq ?_ | refine L.move (k := ?_) | refine L.assign (k := ?_) | refine L.cm (c := ?_) | refine L.ar (c := ?_) | refine C.yes (h1 := ?_) | refine L.txCut (a := t) (lo := 0) (hi := e.length) (r := e) (Nat.zero_le _) hel hec (c := ?_) | refine L.txCut (a := e) (lo := k + 1) (hi := e.length) (r := u) hk1 (Nat.le_refl _) q1 (c := ?_) | refine L.txCut (a := e) (lo := 0) (hi := k) (r := e.take k) (Nat.zero_le _) hk0 q2 (c := ?_) | refine L.txCut (a := u) (lo := 0) (hi := j) (r := u.take j) (Nat.zero_le _) hj0 q4 (c := ?_) | refine L.callQ (hF) (k := ?_) | refine L.callQ (hF2) (k := ?_))
      refine L.callP [] hNm (k := ?_)
      rintro u' B ⟨rfl, rfl⟩
      rw [hdrop_nil, List.nil_append]
      repeat (first | refine L.txLen (c := ?_) | refine C.seq ?_ | refine C.region ?_ | refine L.nil ?_ | refine D.seq ?_ | refine L.move (k := ?_) | refine L.assign (k := ?_) | refine L.ar (c := ?_) | refine L.fieldAddr (c := ?_) | refine L.loadA 0 (c := ?_) | refine L.storeV 0 (c := ?_) | refine L.storeV 1 (c := ?_) | refine L.extract (c := ?_) | refine C.ret ?_ | refine L.txCut (a := u) (lo := j + 1) (hi := u.length) (r := u.drop (j + 1)) hj1 (Nat.le_refl _) q3 (c := ?_) | refine L.callQ (hRg) (k := ?_) | refine L.callQ (hRg2) (k := ?_))
      refine D.ret (vs := [_]) (RV.cellA 1 rfl rfl rfl rfl rfl RV.nil) ?_
      intro w' hw; exact Post.mk (is := []) hw List.nodup_nil rfl ⟨rfl, rfl⟩
end Go.Proofs.YtokcamgipnaoeaaGreatDoor.Ls
