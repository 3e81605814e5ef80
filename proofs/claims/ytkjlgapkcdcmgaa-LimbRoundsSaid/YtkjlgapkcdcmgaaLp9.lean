/- LimbRounds: the walk. -/
import Derived.Test.YtkjlgapkcdcmgaaLp5
import Derived.Test.YtkjlgapkcdcmgaaFin
set_option linter.unusedVariables false
set_option linter.unusedSimpArgs false
namespace Go.Proofs.Ytkjlgapkcdcmgaa
open Go Go.RowKit SL
attribute [local irreducible] SL.L SL.C SL.D SL.N SL.H SL.QL SL.QW SL.QP

theorem wrap_nat2 {n : Int} (h : 0 ≤ n ∧ n ≤ 4611686018427387904) : IntKind.i64.wrap n = n := wrap_big ⟨by omega, h.2⟩
theorem bl_prog {vb vo : Value} {n m : Nat} (h1 : SlV vb n) (h2 : SlV vo m) (r : Int) : bl [(0, 1), (1, 1), (2, 1)] [.int .i64 0, .slice none 0 0, .slice none 0 0] [(0, .int .i64 r), (1, vb), (2, vo)] = some [.int .i64 r, vb, vo] := by
  obtain ⟨p, c, rfl, _⟩ := h1
  obtain ⟨p2, c2, rfl, _⟩ := h2
  rfl
set_option maxRecDepth 100000 in
set_option maxHeartbeats 16000000 in
theorem roundsLaw_S (vb vo v : Value) (bs : List Bf) (ops : List Lop) (tm : Int) (rs : Rws) (hbl : bs.length ≤ maxLen) (hol : ops.length ≤ maxLen) (hrl : rs.length ≤ maxLen) (hI : ∀ o ∈ ops, W64 o.imm) (hrs : ∀ r ∈ rs, RngR r.2) (htm : -9223372036854775808 ≤ tm ∧ tm ≤ 9223372036854775807) :
    Ctr Try.prog 8 [vb, vo, .int .i64 tm, v] [] (fun w => (Rd w [] vb bs.length (bs.flatMap encB) ∧ Rd w [] vo ops.length (ops.flatMap encO)) ∧ RdR w [] v rs) (is (.bool true) []) := by
  refine Ctr.enter Try.func8 Try.ntmps8 rfl rfl (fun w hr => ?_)
  have s1 := hr.1.1.1
  have s2 := hr.1.2.1
  by_cases h20 : 20 < ops.length
  · have c0 : cm .gtr (ops.length : Int) 20 = true := cm_gt (by omega)
    repeat' (first | refine C.seq ?_ | refine C.region ?_ | refine L.nil ?_ | refine D.seq ?_ | refine L.move (k := ?_) | refine L.assign (k := ?_) | refine L.cm (c := ?_) | refine C.yes (h1 := ?_) | refine C.no (h1 := ?_) | refine L.not (c := ?_) | refine C.ret ?_ | refine D.thenRet ?_ | refine C.skip ?_ | refine L.callQ (lives12_S) (k := ?_) | refine L.lenR s2 (c := ?_))
    (refine D.ret (vs := [_]) (RV.tmp rfl RV.nil) ?_; intro w' hw; exact Post.mk (is := []) hw List.nodup_nil rfl ⟨rfl, rfl⟩)
  have c0 : cm .gtr (ops.length : Int) 20 = false := cm_gt' (by omega)
  obtain ⟨t, ht1, ht8, ht⟩ : ∃ t : Nat, 1 ≤ t ∧ t ≤ 8 ∧ ar .add .i64 1 (pickI tm 8) = (t : Int) := by
    have h1 : 0 ≤ tm % 8 := Int.emod_nonneg _ (by decide)
    have h2 : tm % 8 < 8 := Int.emod_lt_of_pos _ (by decide)
    refine ⟨(1 + tm % 8).toNat, by omega, by omega, ?_⟩
    have e : ((1 + tm % 8).toNat : Int) = 1 + tm % 8 := by omega
    rw [← wrap_nat (n := (1 + tm % 8).toNat) (by omega), e]
    rfl
  repeat' (first | refine C.seq ?_ | refine C.region ?_ | refine L.nil ?_ | refine D.seq ?_ | refine L.move (k := ?_) | refine L.assign (k := ?_) | refine L.cm (c := ?_) | refine L.ar (c := ?_) | refine C.no (h1 := ?_) | refine L.not (c := ?_) | refine C.skip ?_ | refine L.buildS (c := fun _ => ?_) | refine L.callQ (lives12_S) (k := ?_) | refine L.lenR s2 (c := ?_) | refine L.callQ (pick_S tm 8 htm (by decide)) (k := ?_) | refine L.callQ (op12_S _ _ _ _ _ _ _) (k := ?_))
  rename_i hb
  refine L.base [_] (M' := []) rfl (fun w1 h1 => ?_)
  have rh : Rd w1 [] (.slice (some ⟨hb, 0, none⟩) 3 3) 3 (rdH.flatMap encO) := Rd.own (h1.holds _ List.mem_cons_self) (by simp) (Nat.le_refl _) 24 rfl
  have q1 := hr.1.1.at h1
  have q2 := hr.1.2.at h1
  have qv := hr.2.at h1
  have kH := ownO_S (.slice (some ⟨hb, 0, none⟩) 3 3) 3 (rdH.flatMap encO) rfl (ones_flat ones_O _) (by omega)
  refine L.callP [] kH (hpre := fun w hw => rh.at hw) (k := ?_)
  rintro u B ⟨ya, ga, rfl, rfl⟩
  rw [hdrop_nil]
  unfold shut
  have hwt : IntKind.u64.wrap (t : Int) = (t : Int) := by simp only [IntKind.wrap, IntKind.bits, IntKind.signed, Bool.false_and, Bool.false_eq_true, if_false]; omega
  repeat' (first | refine L.convI (hz := hwt) (c := ?_) | refine L.move (k := ?_) | refine L.buildS (c := fun _ => ?_) | refine L.callQ (op12_S _ _ _ _ _ _ _) (k := ?_))
  rename_i b1
  refine L.appendU [_] (y := ya) (L2 := []) (cs := rdH.flatMap encO) (m := 3) (u := .slice (some ⟨b1, 0, none⟩) 1 1) (k := 1) (news := encO (rdL t)) ga (by rw [List.append_nil]; rfl) (fun w hw => Rd.own (hw.holds _ List.mem_cons_self) (by simp) (Nat.le_refl _) 8 rfl) rfl (ones_O _) (by unfold maxLen; omega) (by omega) (c := fun y1 g1 _ => ?_)
  repeat' (first | fail)
  refine L.build (hl := bl_prog s1 g1.sl 6) (c := ?_)
  repeat' (first | refine L.alloc (c := fun _ => ?_))
  rename_i pa
  refine L.storeV 0 (vs := [.int .i64 6, vb, osV 4 y1]) (ho := by simp only [List.all_cons, List.all_nil, oneB_os, oneB_sl s1, Bool.and_true]; rfl) (hM := rfl) (c := ?_)
  repeat' (first | refine C.seq ?_ | refine C.region ?_ | refine L.nil ?_ | refine L.move (k := ?_) | refine D.seqR (h := ?_))
  refine L.callP [] kH (hpre := fun w hw => rh.at hw) (k := ?_)
  rintro u B ⟨yb, gb, rfl, rfl⟩
  rw [hdrop_nil]
  unfold shut
  repeat' (first | fail)
  refine L.build (hl := bl_prog s1 gb.sl 6) (c := ?_)
  repeat' (first | refine L.alloc (c := fun _ => ?_))
  rename_i pb
  refine L.storeV 0 (vs := [.int .i64 6, vb, osV 3 yb]) (ho := by simp only [List.all_cons, List.all_nil, oneB_os, oneB_sl s1, Bool.and_true]; rfl) (hM := rfl) (c := ?_)
  refine L.nil ?_
  refine D.seqR (h := ?_)
  refine C.perm (M' := [(b1, ob (encO (rdL t)) 39)] ++ ([(pa, ob [.int .i64 6, vb, osV 4 y1] 25)] ++ (osC 39 y1 [] ++ ([(pb, ob [.int .i64 6, vb, osV 3 yb] 25)] ++ osC 39 yb [])))) (by
    show List.Perm _ ((pb, ob [.int .i64 6, vb, osV 3 yb] 25) :: (osC 39 yb [] ++ ((pa, ob [.int .i64 6, vb, osV 4 y1] 25) :: ([(b1, ob (encO (rdL t)) 39)] ++ osC 39 y1 []))))
    exact perm_by (fun k => match k with | 0 => [(pb, ob [.int .i64 6, vb, osV 3 yb] 25)] | 1 => osC 39 yb [] | 2 => [(pa, ob [.int .i64 6, vb, osV 4 y1] 25)] | 3 => [(b1, ob (encO (rdL t)) 39)] | _ => osC 39 y1 []) [3, 2, 4, 0, 1] [0, 1, 2, 3, 4] (by simp) (by simp)) ?_
  refine C.base [(b1, ob (encO (rdL t)) 39)] rfl (fun w2 h2 => ?_)
  have q12 := q1.base h2 _ (fun x hx => List.mem_append_right [(b1, ob (encO (rdL t)) 39)] hx)
  have q22 := q2.base h2 _ (fun x hx => List.mem_append_right [(b1, ob (encO (rdL t)) 39)] hx)
  have qv2 := qv.base h2 _ (fun x hx => List.mem_append_right [(b1, ob (encO (rdL t)) 39)] hx)
  have rh2 := rh.base h2 _ (fun x hx => List.mem_append_right [(b1, ob (encO (rdL t)) 39)] hx)
  have bk2 : ∀ M2 w', At w2 (keys ([(pa, ob [.int .i64 6, vb, osV 4 y1] 25)] ++ (osC 39 y1 [] ++ ([(pb, ob [.int .i64 6, vb, osV 3 yb] 25)] ++ osC 39 yb [])))) M2 w' → At w [] M2 w' := fun M2 w' hw => At.back (at_nilr h1) (At.back h2 hw)
  obtain ⟨Z, hZ⟩ : ∃ Z, [(pb, ob [.int .i64 6, vb, osV 3 yb] 25)] ++ osC 39 yb [] = Z := ⟨_, rfl⟩
  rw [hZ] at q12 q22 qv2 rh2 bk2 ⊢
  rw [List.singleton_append, ← osC_app 39 y1 Z] at q12 q22 qv2 rh2 bk2 ⊢
  repeat' (first | refine C.seq ?_ | refine C.region ?_ | refine L.move (k := ?_) | refine L.fieldAddr (c := ?_) | refine L.load1 0 (c := ?_))
  refine L.appendU [_] (y := y1) (L2 := Z) (cs := rdH.flatMap encO ++ encO (rdL t)) (m := 3 + 1) (k := ops.length) (news := ops.flatMap encO) g1 rfl (fun w hw => q22.at hw) (flat_len encO_len ops) (ones_flat ones_O ops) (by unfold maxLen; omega) (by omega) (c := fun y2 g2 _ => ?_)
  repeat' (first | refine L.buildS (c := fun _ => ?_) | refine L.callQ end12_S (k := ?_))
  rename_i b2
  refine L.appendU [_, _] (y := y2) (L2 := Z) (cs := (rdH.flatMap encO ++ encO (rdL t)) ++ ops.flatMap encO) (m := 3 + 1 + ops.length) (u := .slice (some ⟨b2, 0, none⟩) 1 1) (k := 1) (news := encO endO) g2 rfl (fun w hw => Rd.own (hw.holds _ List.mem_cons_self) (by simp) (Nat.le_refl _) 8 rfl) rfl (ones_O _) (by unfold maxLen; omega) (by omega) (c := fun y3 g3 _ => ?_)
  have hla : (rdA ops t).length = 3 + 1 + ops.length + 1 := by unfold rdA; simp [rdH]; omega
  have hca : (rdA ops t).flatMap encO = ((rdH.flatMap encO ++ encO (rdL t)) ++ ops.flatMap encO) ++ encO endO := by unfold rdA; simp
  rw [← hla, ← hca] at g3
  rw [← hla]
  simp only [List.cons_append, List.nil_append]
  repeat' (first | refine L.storeV 1 (hc := osV_cells _ _) (ho := osV_one _ _) (hl := rfl) (M' := (b2, ob (encO endO) 39) :: (pa, ob [.int .i64 6, vb, osV (rdA ops t).length y3] 25) :: osC 39 y3 Z) (hM := rfl) (c := ?_) | refine C.seq ?_ | refine C.region ?_ | refine L.nil ?_ | refine D.seq ?_ | refine L.assign (k := ?_) | refine L.fieldAddr (c := ?_) | refine C.block ?_ | refine D.seqR (h := ?_))
  refine C.base ((b2, ob (encO endO) 39) :: (pa, ob [.int .i64 6, vb, osV (rdA ops t).length y3] 25) :: osC 39 y3 []) (M' := Z) (by rw [osC_app 39 y3 Z]; rfl) (fun w3 h3 => ?_)
  have h3' := h3
  rw [osC_app 39 y3 Z] at h3'
  have hsub : ∀ x ∈ Z, x ∈ (b2, ob (encO endO) 39) :: (pa, ob [.int .i64 6, vb, osV (rdA ops t).length y3] 25) :: osC 39 y3 Z := fun x hx => by rw [osC_app 39 y3 Z]; simp [hx]
  have hnot : ∀ x, x ∈ (b2, ob (encO endO) 39) :: (pa, ob [.int .i64 6, vb, osV (rdA ops t).length y3] 25) :: osC 39 y3 [] → x.1 ∉ keys Z := fun x hx => At.notin (B := (b2, ob (encO endO) 39) :: (pa, ob [.int .i64 6, vb, osV (rdA ops t).length y3] 25) :: osC 39 y3 []) h3' hx
  have opa : Old w3 (keys Z) pa 0 [.int .i64 6, vb, osV (rdA ops t).length y3] := Old.own (h3.holds (pa, ob [.int .i64 6, vb, osV (rdA ops t).length y3] 25) (by simp)) (hnot (pa, ob [.int .i64 6, vb, osV (rdA ops t).length y3] 25) (by simp)) _ List.take_length
  have ra := g3.rdk (T := 39) (A' := keys Z) h3 (fun x hx => by rw [osC_app 39 y3 Z]; simp [hx]) (fun x hx => hnot x (by simp [hx]))
  have q13 := q12.base h3 _ hsub
  have q23 := q22.base h3 _ hsub
  have qv3 := qv2.base h3 _ hsub
  have rh3 := rh2.base h3 _ hsub
  have bk3 : ∀ M2 w', At w3 (keys Z) M2 w' → At w [] M2 w' := fun M2 w' hw => bk2 M2 w' (At.back (B := (b2, ob (encO endO) 39) :: (pa, ob [.int .i64 6, vb, osV (rdA ops t).length y3] 25) :: osC 39 y3 []) h3' hw)
  clear q12 q22 qv2 rh2 hsub hnot h3' g1 g2 ga bk2
  subst hZ
  have hlb : ∀ i : Nat, (rdH ++ rdS ops 0 i).length = 3 + i * (ops.length + 1) := fun i => by rw [List.length_append, rdS_len]; rfl
  refine C.loop (α := Nat × OS) (fun x => x.1 ≤ t ∧ osG 8 (rdH ++ rdS ops 0 x.1).length ((rdH ++ rdS ops 0 x.1).flatMap encO) x.2)
    (fun x => [(1, vo), (2, .int .i64 t), (3, v), (9, .slice (some ⟨hb, 0, none⟩) 3 3), (10, .pointer (some ⟨pa, 0, none⟩)), (11, .pointer (some ⟨pb, 0, none⟩)), (12, .int .i64 x.1)])
    (fun x => (pb, ob [.int .i64 6, vb, osV (rdH ++ rdS ops 0 x.1).length x.2] 25) :: osC 39 x.2 []) (fun x => t - x.1) (0, yb)
    (fun a w hs => hs.lessE rfl (lk_cons rfl (lk_cons rfl (lk_cons rfl (lk_cons rfl (lk_cons rfl (lk_cons rfl (lk_cons rfl (fun _ _ h => lk_nil h)))))))))
    ⟨Nat.zero_le _, by simpa [rdS, rdH] using gb⟩ ?_
  rintro ⟨i, y⟩ ⟨hi, hG⟩
  simp only at hi hG ⊢
  rcases Nat.lt_or_ge i t with hlt | hge
  · have k1 : cm .lss (i : Int) (t : Int) = true := cm_lo (by omega)
    have k2 : ar .add .i64 (i : Int) 1 = ((i + 1 : Nat) : Int) := wrap_nat (by omega)
    have hwi : IntKind.u64.wrap (i : Int) = (i : Int) := u64_wrap (by omega)
    repeat' (first | refine C.make [] (by kernel_rfl) (h := ?_) | refine C.seq ?_ | refine C.region ?_ | refine L.nil ?_ | refine D.seq ?_ | refine L.move (k := ?_) | refine L.cm (c := ?_) | refine C.yes (h1 := ?_) | refine C.block ?_ | refine C.skip ?_)
    (refine QP.quiet (v := ?_) (by exact rfl) (by exact rfl) (fun w4 g4 => ?_) ?_; rotate_left); repeat (first | refine L.convI (hz := hwi) (c := ?_) | refine L.nil ?_ | refine L.fieldAddr (c := ?_) | exact D.endsQ | refine L.callQ (op12_S _ _ _ _ _ _ _) (k := ?_) | exact D.endsQ)
    (refine QP.quietI (v := ?_) [10] [(pb, ob [.int .i64 6, vb, osV (rdH ++ rdS ops 0 i).length y] 25)] (by exact rfl) (by exact rfl) (fun w4 g4 => ?_) ?_; rotate_left); simp only [List.take_succ_cons, List.take_zero, List.take_nil, List.cons_append, List.nil_append]; repeat (first | refine L.nil ?_ | refine L.load1 0 (c := ?_) | exact D.endsQ | exact D.endsQ)
    iterate 3 ((refine QP.quiet (v := ?_) (by exact rfl) (by exact rfl) (fun w4 g4 => ?_) ?_; rotate_left); repeat (first | refine L.convI (hz := hwi) (c := ?_) | refine L.nil ?_ | refine L.move (k := ?_) | exact D.endsQ | refine L.callQ (op12_S _ _ _ _ _ _ _) (k := ?_) | exact D.endsQ))
    refine QP.mk0 [] (fun F B => ∃ nb, F = [(66, .slice (some ⟨nb, 0, none⟩) 1 1)] ∧ B = [(nb, ob (encO (rdC i)) 39)]) (h := fun w4 g4 => ?_) (k := ?_)
    · rw [List.nil_append]
      repeat (first | refine L.nil ?_ | refine L.buildS (c := fun _ => ?_))
      exact D.endsP1 [_] (hR := ⟨_, rfl, rfl⟩)
    refine QP.mk1 5 (osC 39 y []) (fun F B => ∃ nb y', osG 8 ((rdH ++ rdS ops 0 i).length + 1) ((rdH ++ rdS ops 0 i).flatMap encO ++ encO (rdC i)) y' ∧ F = [(67, osV ((rdH ++ rdS ops 0 i).length + 1) y')] ∧ B = (nb, ob (encO (rdC i)) 39) :: osC 39 y' []) (h := ?_) (k := ?_)
    · rintro F B ⟨nb, rfl, rfl⟩ w4 g4
      refine L.appendU [(nb, ob (encO (rdC i)) 39)] (L2 := []) (y := y) (m := (rdH ++ rdS ops 0 i).length) (u := .slice (some ⟨nb, 0, none⟩) 1 1) (k := 1) (news := encO (rdC i)) hG (by simp) (fun w hw => Rd.own (hw.holds _ List.mem_cons_self) (by simp) (Nat.le_refl _) 8 rfl) rfl (ones_O _) (by rw [hlb]; unfold maxLen; have := Nat.mul_le_mul (show i ≤ 8 by omega) (show ops.length + 1 ≤ 21 by omega); omega) (by rw [hlb]; have := Nat.mul_le_mul (show i ≤ 8 by omega) (show ops.length + 1 ≤ 21 by omega); omega) (c := fun y' hG' _ => ?_)
      refine L.nil ?_
      exact D.endsP1 ((nb, ob (encO (rdC i)) 39) :: osC 39 y' []) (hM := by rw [List.append_nil]; rfl) (hR := ⟨nb, y', hG', rfl, rfl⟩)
    (refine QP.quiet (v := ?_) (by exact rfl) (by exact rfl) (fun w4 g4 => ?_) ?_; rotate_left); repeat (first | refine L.convI (hz := hwi) (c := ?_) | refine L.nil ?_ | refine L.move (k := ?_) | exact D.endsQ | refine L.callQ (op12_S _ _ _ _ _ _ _) (k := ?_) | exact D.endsQ)
    refine QP.mk1 6 [] (fun F B => ∃ nb y', osG 8 ((rdH ++ rdS ops 0 i).length + 1 + ops.length) (((rdH ++ rdS ops 0 i).flatMap encO ++ encO (rdC i)) ++ ops.flatMap encO) y' ∧ F = [(69, osV ((rdH ++ rdS ops 0 i).length + 1 + ops.length) y')] ∧ B = (nb, ob (encO (rdC i)) 39) :: osC 39 y' []) (h := ?_) (k := ?_)
    · rintro F B ⟨nb, y1, hG1, rfl, rfl⟩ w4 g4
      refine L.appendU [(nb, ob (encO (rdC i)) 39)] (L2 := []) (y := y1) (m := (rdH ++ rdS ops 0 i).length + 1) (u := vo) (k := ops.length) (news := ops.flatMap encO) hG1 (by simp) (fun w hw => (q23.base g4 _ (fun _ h => h)).at hw) (flat_len encO_len ops) (ones_flat ones_O ops) (by rw [hlb]; unfold maxLen; have := Nat.mul_le_mul (show i ≤ 8 by omega) (show ops.length + 1 ≤ 21 by omega); omega) (by rw [hlb]; have := Nat.mul_le_mul (show i ≤ 8 by omega) (show ops.length + 1 ≤ 21 by omega); omega) (c := fun y' hG' _ => ?_)
      refine L.nil ?_
      exact D.endsP1 ((nb, ob (encO (rdC i)) 39) :: osC 39 y' []) (hM := by rw [List.append_nil]; rfl) (hR := ⟨nb, y', hG', rfl, rfl⟩)
    (refine QP.quiet (v := ?_) (by exact rfl) (by exact rfl) (fun w4 g4 => ?_) ?_; rotate_left); repeat (first | refine L.convI (hz := hwi) (c := ?_) | refine L.nil ?_ | refine L.fieldAddr (c := ?_) | exact D.endsQ | refine L.callQ (op12_S _ _ _ _ _ _ _) (k := ?_) | exact D.endsQ)
    refine QP.mk1 8 [(pb, ob [.int .i64 6, vb, osV (rdH ++ rdS ops 0 i).length y] 25)] (fun F B => ∃ nb y', osG 8 ((rdH ++ rdS ops 0 i).length + 1 + ops.length) (((rdH ++ rdS ops 0 i).flatMap encO ++ encO (rdC i)) ++ ops.flatMap encO) y' ∧ F = [] ∧ B = (nb, ob (encO (rdC i)) 39) :: (pb, ob [.int .i64 6, vb, osV ((rdH ++ rdS ops 0 i).length + 1 + ops.length) y'] 25) :: osC 39 y' []) (h := ?_) (k := ?_)
    · rintro F B ⟨nb, y1, hG1, rfl, rfl⟩ w4 g4
      refine L.perm (M' := (nb, ob (encO (rdC i)) 39) :: (pb, ob [.int .i64 6, vb, osV (rdH ++ rdS ops 0 i).length y] 25) :: osC 39 y1 []) (by show List.Perm _ ((nb, ob (encO (rdC i)) 39) :: (osC 39 y1 [] ++ [(pb, ob [.int .i64 6, vb, osV (rdH ++ rdS ops 0 i).length y] 25)])); exact List.Perm.cons _ (List.perm_append_singleton _ _).symm) ?_
      refine L.storeV 1 (hc := osV_cells _ _) (ho := osV_one _ _) (hl := rfl) (hM := rfl) (c := ?_)
      refine L.nil ?_
      exact D.endsP0 [] ((nb, ob (encO (rdC i)) 39) :: (pb, ob [.int .i64 6, vb, osV ((rdH ++ rdS ops 0 i).length + 1 + ops.length) y1] 25) :: osC 39 y1 []) (hM := by rw [List.append_nil]; rfl) (hF := fun _ _ h => by cases h) (hR := ⟨nb, y1, hG1, rfl, rfl⟩)
    refine QP.fin1 [none, none, none, none, none, some [], some [5], none, some [6], none, some [8]] 10 (nds := [[], [10], [], [], [], [], [], [], [], [], []]) (hM := by simp only [List.reverse_cons, List.reverse_nil, List.nil_append, List.cons_append, List.flatMap_cons, List.flatMap_nil, Pl.ini, List.append_nil]; exact (List.perm_append_singleton _ _).symm) (k := ?_)
    rintro F B ⟨nb, y1, hG1, rfl, rfl⟩
    rw [List.nil_append, List.append_nil]
    have hls : (rdH ++ rdS ops 0 (i + 1)).length = (rdH ++ rdS ops 0 i).length + 1 + ops.length := by rw [hlb, hlb, Nat.succ_mul]; omega
    have hcs : (rdH ++ rdS ops 0 (i + 1)).flatMap encO = ((rdH ++ rdS ops 0 i).flatMap encO ++ encO (rdC i)) ++ ops.flatMap encO := by
      rw [rdS_snoc]; simp
    rw [← hls, ← hcs] at hG1
    rw [← hls]
    repeat' (first | refine C.region ?_ | refine L.nil ?_ | refine D.seq ?_ | refine L.move (k := ?_) | refine L.assign (k := ?_) | refine L.ar (c := ?_) | refine D.blkNormal ?_)
    exact D.then_ fun a1 w4 hs => ⟨(i + 1, y1), ⟨hlt, hG1⟩, by simp only; omega, hs.lessD 1 rfl (lk_cons rfl (lk_cons rfl (lk_cons rfl (lk_cons rfl (lk_cons rfl (lk_cons rfl (lk_cons rfl (fun _ _ h => lk_nil h))))))))⟩
  obtain rfl : t = i := by omega
  have k1 : cm .lss (t : Int) (t : Int) = false := cm_lo' (by omega)
  repeat' (first | refine C.seq ?_ | refine C.region ?_ | refine L.nil ?_ | refine D.seq ?_ | refine L.move (k := ?_) | refine L.cm (c := ?_) | refine C.no (h1 := ?_) | refine C.exit ?_ | refine D.thenExit ?_ | refine D.blkExit ?_ | refine D.seqR (h := ?_))
  refine L.base ((pb, ob [.int .i64 6, vb, osV (rdH ++ rdS ops 0 t).length y] 25) :: osC 39 y []) (M' := []) (List.append_nil _).symm (fun w4 h4 => ?_)
  have opb4 : Old w4 [] pb 0 [.int .i64 6, vb, osV (rdH ++ rdS ops 0 t).length y] := Old.own (h4.holds (pb, ob [.int .i64 6, vb, osV (rdH ++ rdS ops 0 t).length y] 25) (by simp)) (by simp) _ List.take_length
  have rb4 := hG.rdm (T := 39) h4 (fun x hx => by simp [hx])
  have opa4 := opa.at h4
  have ra4 := ra.at h4
  have q14 := q13.at h4
  have q24 := q23.at h4
  have qv4 := qv3.at h4
  have rh4 := rh3.at h4
  have bk4 : ∀ M2 w', At w4 (keys []) M2 w' → At w [] M2 w' := fun M2 w' hw => bk3 M2 w' (At.back (at_nilr h4) hw)
  have hB0 : rdH ++ rdS ops 0 t = rdB ops t := rfl
  rw [hB0] at opb4 rb4
  have hlb2 := hlb t
  rw [hB0] at hlb2
  have hmul := Nat.mul_le_mul ht8 (show ops.length + 1 ≤ 21 by omega)
  have kL := light_S 6 vb (osV (rdA ops t).length y3) bs (rdA ops t).length 30 ra4.1 hbl (by unfold maxLen; omega)
  have kR := lightRows_S v rs hrl
  cases hL : lightM 6 bs (rdA ops t).length 30 with
  | false =>
    rw [hL] at kL
    repeat' (first | refine C.seq ?_ | refine C.region ?_ | refine L.nil ?_ | refine D.seq ?_ | refine L.move (k := ?_) | refine L.assign (k := ?_) | refine C.yes (h1 := ?_) | refine L.pickT (k := ?_) | refine L.pass (k := ?_) | refine L.not (c := ?_) | refine C.ret ?_ | refine D.thenRet ?_ | refine D.seqR (h := ?_) | refine L.loadOA opa4 (i := 0) (ho := rfl) (hi := Nat.le_refl 3) (hcs := rfl) (c := ?_) | refine L.callQ kL (hpre := fun w hw => q14.at hw) (k := ?_))
    (refine D.ret (vs := [_]) (RV.tmp rfl RV.nil) ?_; intro w' hw; exact Post.mkD 0 (bk4 _ _ hw) rfl ⟨rfl, rfl⟩)
  | true =>
  rw [hL] at kL
  cases hA : lightRowsM rs with
  | false =>
    rw [hA] at kR
    repeat' (first | refine C.seq ?_ | refine C.region ?_ | refine L.nil ?_ | refine D.seq ?_ | refine L.move (k := ?_) | refine L.assign (k := ?_) | refine C.yes (h1 := ?_) | refine L.pickF (k := ?_) | refine L.want (k := ?_) | refine L.not (c := ?_) | refine C.ret ?_ | refine D.thenRet ?_ | refine D.seqR (h := ?_) | refine L.loadOA opa4 (i := 0) (ho := rfl) (hi := Nat.le_refl 3) (hcs := rfl) (c := ?_) | refine L.callQ kL (hpre := fun w hw => q14.at hw) (k := ?_) | refine L.callQ kR (hpre := fun w hw => qv4.at hw) (k := ?_))
    (refine D.ret (vs := [_]) (RV.tmp rfl RV.nil) ?_; intro w' hw; exact Post.mkD 0 (bk4 _ _ hw) rfl ⟨rfl, rfl⟩)
  | true =>
  rw [hA] at kR
  obtain ⟨h40, h600⟩ := lightRows_ok hA
  repeat' (first | refine C.seq ?_ | refine C.region ?_ | refine L.nil ?_ | refine D.seq ?_ | refine L.move (k := ?_) | refine L.assign (k := ?_) | refine C.no (h1 := ?_) | refine L.pickF (k := ?_) | refine L.want (k := ?_) | refine L.not (c := ?_) | refine C.block ?_ | refine C.skip ?_ | refine D.seqR (h := ?_) | refine L.loadOA opa4 (i := 0) (ho := rfl) (hi := Nat.le_refl 3) (hcs := rfl) (c := ?_) | refine L.callQ kL (hpre := fun w hw => q14.at hw) (k := ?_) | refine L.callQ kR (hpre := fun w hw => qv4.at hw) (k := ?_))
  refine C.loop (α := Nat) (fun i => i ≤ ops.length ∧ ∀ (j : Nat) (o : Lop), j < i → ops[j]? = some o → o.k ≠ 16 ∧ o.k ≠ 17) (fun i => [(1, vo), (3, v), (9, .slice (some ⟨hb, 0, none⟩) 3 3), (10, .pointer (some ⟨pa, 0, none⟩)), (11, .pointer (some ⟨pb, 0, none⟩)), (13, .int .i64 (i : Int))]) (fun _ => []) (fun i => ops.length - i) 0
    (fun a w hs => hs.lessE rfl (lk_cons rfl (lk_cons rfl (lk_cons rfl (lk_cons rfl (lk_cons rfl (lk_cons rfl (fun _ _ h => lk_nil h)))))))) ⟨Nat.zero_le _, fun j o h => by omega⟩ ?_
  rintro i ⟨hi, hk⟩
  rcases Nat.lt_or_ge i ops.length with hlt | hge2
  · have k1 : cm .lss (i : Int) ops.length = true := cm_lo (by omega)
    have k2 : ar .add .i64 (i : Int) 1 = ((i + 1 : Nat) : Int) := wrap_nat (by omega)
    obtain ⟨o, ho⟩ : ∃ o, ops[i]? = some o := ⟨_, List.getElem?_eq_getElem hlt⟩
    have oO := q24.2 (by omega)
    have o0 := flat_get encO_len ops i o ho 0 (by decide)
    cases hk1 : cm .eql o.k 16 with
    | true =>
      repeat' (first | refine C.seq ?_ | refine C.region ?_ | refine L.nil ?_ | refine D.seq ?_ | refine L.move (k := ?_) | refine L.assign (k := ?_) | refine L.cm (c := ?_) | refine L.fieldAddr (c := ?_) | refine C.yes (h1 := ?_) | refine L.pickT (k := ?_) | refine L.pass (k := ?_) | refine C.block ?_ | refine C.ret ?_ | refine D.thenRet ?_ | refine D.blkRet ?_ | refine C.skip ?_ | refine L.lenR s2 (c := ?_) | refine L.indexR s2 hlt (c := ?_) | refine L.loadF oO o0 (c := ?_))
      (refine D.ret (vs := [_]) (RV.tmp rfl RV.nil) ?_; intro w' hw; exact Post.mkD 0 (bk4 _ _ hw) rfl ⟨rfl, rfl⟩)
    | false =>
      cases hk2 : cm .eql o.k 17 with
      | true =>
        repeat' (first | refine C.seq ?_ | refine C.region ?_ | refine L.nil ?_ | refine D.seq ?_ | refine L.move (k := ?_) | refine L.assign (k := ?_) | refine L.cm (c := ?_) | refine L.fieldAddr (c := ?_) | refine C.yes (h1 := ?_) | refine L.pickF (k := ?_) | refine L.want (k := ?_) | refine C.block ?_ | refine C.ret ?_ | refine D.thenRet ?_ | refine D.blkRet ?_ | refine C.skip ?_ | refine L.lenR s2 (c := ?_) | refine L.indexR s2 hlt (c := ?_) | refine L.loadF oO o0 (c := ?_))
        (refine D.ret (vs := [_]) (RV.tmp rfl RV.nil) ?_; intro w' hw; exact Post.mkD 0 (bk4 _ _ hw) rfl ⟨rfl, rfl⟩)
      | false =>
        repeat' (first | refine C.seq ?_ | refine C.region ?_ | refine L.nil ?_ | refine D.seq ?_ | refine L.move (k := ?_) | refine L.assign (k := ?_) | refine L.cm (c := ?_) | refine L.ar (c := ?_) | refine L.fieldAddr (c := ?_) | refine C.yes (h1 := ?_) | refine C.no (h1 := ?_) | refine L.pickF (k := ?_) | refine L.want (k := ?_) | refine C.block ?_ | refine D.blkNormal ?_ | refine C.skip ?_ | refine L.lenR s2 (c := ?_) | refine L.indexR s2 hlt (c := ?_) | refine L.loadF oO o0 (c := ?_))
        exact D.then_ fun a1 w5 hs => ⟨i + 1, ⟨hlt, fun j o' hj ho' => by
          rcases Nat.lt_or_ge j i with h | h
          · exact hk j o' h ho'
          · have : j = i := by omega
            subst this
            rw [ho] at ho'; cases ho'
            exact ⟨(fun e => by rw [cm_yes e] at hk1; cases hk1), (fun e => by rw [cm_yes e] at hk2; cases hk2)⟩⟩, by omega, hs.lessE rfl (lk_cons rfl (lk_cons rfl (lk_cons rfl (lk_cons rfl (lk_cons rfl (lk_cons rfl (fun _ _ h => lk_nil h)))))))⟩
  have k2 : cm .lss (i : Int) ops.length = false := cm_lo' (by omega)
  have hkk : ∀ o ∈ ops, o.k ≠ 16 ∧ o.k ≠ 17 := fun o ho => by
    obtain ⟨j, hj⟩ := List.mem_iff_getElem?.1 ho
    exact hk j o (by have := (List.getElem?_eq_some_iff.1 hj).1; omega) hj
  repeat' (first | refine C.seq ?_ | refine C.region ?_ | refine L.nil ?_ | refine D.seq ?_ | refine L.move (k := ?_) | refine L.cm (c := ?_) | refine C.no (h1 := ?_) | refine C.exit ?_ | refine D.thenExit ?_ | refine D.blkExit ?_ | refine L.lenR s2 (c := ?_) | refine L.loadOA opa4 (i := 0) (ho := rfl) (hi := Nat.le_refl 3) (hcs := rfl) (c := ?_))
  refine L.callP [] (check_S 6 vb (osV (rdA ops t).length y3) bs (rdA ops t) hbl) (hpre := fun w hw => ⟨q14.at hw, ra4.at hw⟩) (k := ?_)
  rintro u0 B0 ⟨rfl, rfl⟩
  rw [hdrop_nil]
  unfold shut
  rw [List.nil_append]
  by_cases he : (checkM 6 bs (rdA ops t)).2 ≠ 0
  · have c1 : cm .neq (checkM 6 bs (rdA ops t)).2 0 = true := cm_ne he
    repeat' (first | refine C.seq ?_ | refine C.region ?_ | refine L.nil ?_ | refine D.seq ?_ | refine L.move (k := ?_) | refine L.assign (k := ?_) | refine L.cm (c := ?_) | refine L.extract (c := ?_) | refine C.yes (h1 := ?_) | refine C.ret ?_ | refine D.thenRet ?_)
    (refine D.ret (vs := [_]) (RV.tmp rfl RV.nil) ?_; intro w' hw; exact Post.mkD 0 (bk4 _ _ hw) rfl ⟨rfl, rfl⟩)
  replace he : (checkM 6 bs (rdA ops t)).2 = 0 := by omega
  have c1 : cm .neq (checkM 6 bs (rdA ops t)).2 0 = false := cm_ne' he
  obtain ⟨g1, g2, g3'⟩ := rounds_law (rs := rs) he hkk (by omega) ht8
  have hIH : ∀ o ∈ rdH, W64 o.imm := fun o ho => by simp [rdH] at ho; rcases ho with rfl | rfl | rfl <;> exact ⟨by decide, by decide⟩
  have hIA : ∀ o ∈ rdA ops t, W64 o.imm := fun o ho => by
    simp only [rdA, List.mem_append, List.mem_cons, List.mem_singleton, List.not_mem_nil, or_false] at ho
    rcases ho with h | rfl | h | rfl
    · exact hIH o h
    · exact ⟨by show (0 : Int) ≤ (t : Int); omega, by show (t : Int) < 18446744073709551616; omega⟩
    · exact hI o h
    · exact ⟨by decide, by decide⟩
  have hIS : ∀ (m n : Nat), n + m ≤ 8 → ∀ o ∈ rdS ops n m, W64 o.imm := by
    intro m
    induction m with
    | zero => intro n _ o ho; cases ho
    | succ m ih =>
      intro n hn o ho
      have ho' : o ∈ rdC n :: (ops ++ rdS ops (n + 1) m) := ho
      rcases List.mem_cons.1 ho' with rfl | ho'
      · exact ⟨by show (0 : Int) ≤ (n : Int); omega, by show (n : Int) < 18446744073709551616; omega⟩
      · rcases List.mem_append.1 ho' with h | h
        · exact hI o h
        · exact ih (n + 1) (by omega) o h
  have hIB : ∀ o ∈ rdB ops t, W64 o.imm := fun o ho => by
    rcases List.mem_append.1 ho with h | h
    · exact hIH o h
    · exact hIS t 0 (by omega) o h
  repeat' (first | refine C.seq ?_ | refine C.region ?_ | refine L.nil ?_ | refine D.seq ?_ | refine L.move (k := ?_) | refine L.assign (k := ?_) | refine L.cm (c := ?_) | refine L.extract (c := ?_) | refine C.no (h1 := ?_) | refine C.skip ?_ | refine L.loadOA opa4 (i := 0) (ho := rfl) (hi := Nat.le_refl 3) (hcs := rfl) (c := ?_))
  refine L.callP [] (lrun_S 6 vb (osV (rdA ops t).length y3) v bs (rdA ops t) rs hbl hIA hrs) (hpre := fun w hw => ⟨⟨q14.at hw, ra4.at hw⟩, qv4.at hw⟩) (k := ?_)
  intro u1 B1 hu1
  rw [hdrop_nil]
  obtain ⟨xv, lv, rx, rfl, hmx, hgx, hrx⟩ := run_read hu1
  unfold shut
  refine L.base _ (M' := []) (List.append_nil _).symm (fun w5 h5 => ?_)
  obtain ⟨rX, rL⟩ := hrx _ _ _ _ h5 (fun b hb => by simp [hb])
  have opb5 := opb4.at h5
  have rb5 := rb4.at h5
  have q15 := q14.at h5
  have qv5 := qv4.at h5
  have rh5 := rh4.at h5
  have bk5 : ∀ M2 w', At w5 (keys []) M2 w' → At w [] M2 w' := fun M2 w' hw => bk4 M2 w' (At.back (at_nilr h5) hw)
  obtain ⟨sx, so1⟩ := out_small (regs := 6) (bs := bs) (os := rdA ops t) (rs := rs)
  repeat' (first | refine C.seq ?_ | refine C.region ?_ | refine L.nil ?_ | refine L.move (k := ?_) | refine L.assign (k := ?_) | refine L.extract (c := ?_) | refine D.seqR (h := ?_) | refine L.loadOA opb5 (i := 0) (ho := rfl) (hi := Nat.le_refl 3) (hcs := rfl) (c := ?_))
  refine L.callP [] (lrun_S 6 vb (osV (rdB ops t).length y) v bs (rdB ops t) rs hbl hIB hrs) (hpre := fun w hw => ⟨⟨q15.at hw, rb5.at hw⟩, qv5.at hw⟩) (k := ?_)
  intro u2 B2 hu2
  rw [hdrop_nil]
  obtain ⟨yv, mv, ry, rfl, hmy, hgy, hry⟩ := run_read hu2
  unfold shut
  refine L.base _ (M' := []) (List.append_nil _).symm (fun w6 h6 => ?_)
  obtain ⟨rY, rM⟩ := hry _ _ _ _ h6 (fun b hb => by simp [hb])
  have rX6 := rX.at h6
  have rL6 := rL.at h6
  have rh6 := rh5.at h6
  have bk6 : ∀ M2 w', At w6 (keys []) M2 w' → At w [] M2 w' := fun M2 w' hw => bk5 M2 w' (At.back (at_nilr h6) hw)
  clear hrx hry hu1 hu2
  obtain ⟨X1, hX1⟩ : ∃ x, outR 6 bs (rdA ops t) rs = x := ⟨_, rfl⟩
  obtain ⟨X2, hX2⟩ : ∃ x, outR 6 bs (rdB ops t) rs = x := ⟨_, rfl⟩
  rw [hX1] at g1 g2 g3' hmx rL6 so1 sx ⊢
  rw [hX2] at g1 g2 g3' hmy rM ⊢
  have hln : X2.2.2.length = X1.2.2.length := by have := congrArg List.length g3'; simpa using this
  have c2 : cm .neq X1.1 X2.1 = false := cm_ne' g1.symm
  have hxl : rx.length ≤ 32 := by have := congrArg List.length hmx; rw [List.length_map] at this; omega
  have kR2 := rowsEq_S xv yv rx ry (by omega) (fun r hr => by
    have : r.2 ∈ rx.map (·.2) := List.mem_map.2 ⟨r, hr, rfl⟩
    rw [hmx] at this
    have := so1.2.2 _ this
    omega)
  rw [decide_eq_true (show rx.map (·.2) = ry.map (·.2) by rw [hmx, hmy, g2])] at kR2
  have c3 : ar .add .i64 (X1.2.2.length : Int) ((3 : Nat) : Int) = (X1.2.2.length : Int) + ((3 : Nat) : Int) := wrap_big (by omega)
  have c4 : cm .lss ((X1.2.2.length : Int) + ((3 : Nat) : Int)) 0 = false := cm_lo' (by omega)
  have c5 : cm .neq (X1.2.2.length : Int) X2.2.2.length = false := cm_ne' (by omega)
  repeat' (first | refine C.seq ?_ | refine C.region ?_ | refine L.nil ?_ | refine D.seq ?_ | refine L.move (k := ?_) | refine L.assign (k := ?_) | refine L.cm (c := ?_) | refine L.ar (c := ?_) | refine L.extract (c := ?_) | refine C.no (h1 := ?_) | refine L.pickF (k := ?_) | refine L.want (k := ?_) | refine L.not (c := ?_) | refine L.lenV (c := ?_) | refine C.block ?_ | refine C.skip ?_ | refine D.seqR (h := ?_) | refine L.callQ kR2 (hpre := fun w1 hw => ⟨rX6.at hw, rY.at hw⟩) (k := ?_) | refine L.lenR rL6.1 (c := ?_) | refine L.lenR rM.1 (c := ?_))
  --@
  refine C.loop (α := Nat) (fun i => i ≤ X1.2.2.length) (fun i => [(17, lv), (20, mv), (22, .int .i64 (i : Int))]) (fun _ => []) (fun i => X1.2.2.length - i) 0
    (fun a w hs => hs.lessE rfl (lk_cons rfl (lk_cons rfl (lk_cons rfl (fun _ _ h => lk_nil h))))) (Nat.zero_le _) ?_
  rintro j hj
  rcases Nat.lt_or_ge j X1.2.2.length with hlt | hge3
  · have k1 : cm .lss (j : Int) X1.2.2.length = true := cm_lo (by omega)
    have k2 : ar .add .i64 (j : Int) 1 = ((j + 1 : Nat) : Int) := wrap_nat2 (by omega)
    obtain ⟨e, he1⟩ : ∃ e, X1.2.2[j]? = some e := ⟨_, List.getElem?_eq_getElem hlt⟩
    obtain ⟨f, he2⟩ : ∃ e, X2.2.2[j]? = some e := ⟨_, List.getElem?_eq_getElem (by omega)⟩
    have hef : e.at_ = f.at_ := by
      have := congrArg (fun l => l[j]?) g3'
      simp only [List.getElem?_map, he1, he2, Option.map_some] at this
      exact (Option.some.inj this).symm
    have c6 : cm .neq e.at_ f.at_ = false := cm_ne' hef
    have o1 := rL6.2 (by omega)
    have o2 := rM.2 (by omega)
    have hlt2 : j < X2.2.2.length := by omega
    have f1 := flat_get encE_len X1.2.2 j e he1 1 (by decide)
    have f2 := flat_get encE_len X2.2.2 j f he2 1 (by decide)
    repeat' (first | refine C.seq ?_ | refine C.region ?_ | refine L.nil ?_ | refine D.seq ?_ | refine L.move (k := ?_) | refine L.assign (k := ?_) | refine L.cm (c := ?_) | refine L.ar (c := ?_) | refine L.fieldAddr (c := ?_) | refine C.yes (h1 := ?_) | refine C.no (h1 := ?_) | refine C.block ?_ | refine D.blkNormal ?_ | refine C.skip ?_ | exact D.endsQ | refine QL.fin ?_ | refine C.quiet (h := ?_) | (refine QL.step (v := ?_) (by exact rfl) (by exact rfl) ?_ ?_; rotate_left) | refine L.lenR rL6.1 (c := ?_) | refine L.indexR rL6.1 hlt (c := ?_) | refine L.indexR rM.1 hlt2 (c := ?_) | refine L.loadF o1 f1 (c := ?_) | refine L.loadF o2 f2 (c := ?_))
    exact D.then_ fun a1 w7 hs => ⟨j + 1, hlt, by omega, hs.lessE rfl (lk_cons rfl (lk_cons rfl (lk_cons rfl (fun _ _ h => lk_nil h))))⟩
  have k3 : cm .lss (j : Int) X1.2.2.length = false := cm_lo' (by omega)
  repeat' (first | refine C.seq ?_ | refine C.region ?_ | refine L.nil ?_ | refine D.seq ?_ | refine L.move (k := ?_) | refine L.assign (k := ?_) | refine L.cm (c := ?_) | refine C.no (h1 := ?_) | refine C.ret ?_ | refine C.exit ?_ | refine D.thenExit ?_ | refine D.blkExit ?_ | refine L.lenR rL6.1 (c := ?_))
  (refine D.ret (vs := [_]) (RV.tmp rfl RV.nil) ?_; intro w' hw; exact Post.mkD 0 (bk6 _ _ hw) rfl ⟨rfl, rfl⟩)
theorem rounds_walk (vb : Value) (bs : List Bf) (vo : Value) (ops : List Lop) (tm : Int) (wt : (Lit.int .i64 tm).wf = true) (u : Value) (rs : Rws) (w : World) (hb : (∀ b ∈ bs, b.Ok) ∧ bs.length ≤ maxLen ∧ Rd w [] vb bs.length (bs.flatMap encB)) (ho : (∀ o ∈ ops, o.Ok) ∧ ops.length ≤ maxLen ∧ Rd w [] vo ops.length (ops.flatMap encO)) (hq : RowsA w u rs) :
    Calls Try.prog 8 #[vb, vo, .int .i64 tm, u] w fun e w' => e = .returned (.bool true) ∧ Below w.heap.size w w' :=
  (roundsLaw_S vb vo u bs ops tm rs hb.2.1 ho.2.1 hq.len (fun o h => (ho.1 o h).imm.w) (fun r hr x hx => ((hq.ok r hr).1 x hx).w) (int_of_wf wt)).true w ⟨⟨hb.2.2, ho.2.2⟩, hq.rd⟩
end Go.Proofs.Ytkjlgapkcdcmgaa
