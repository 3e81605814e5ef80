/- limb: head, put, in, lacks. -/
import Derived.Test.YtkjlgapkcdcmgaaLk9
set_option linter.unusedVariables false
set_option linter.unusedSimpArgs false
namespace Go.Proofs.Ytkjlgapkcdcmgaa
open Go Go.RowKit SL
attribute [local irreducible] SL.L SL.C SL.D SL.N SL.H SL.QL SL.QW SL.QP

theorem head1_S (x : Bf) (K : World → Prop) : Ctr Try.prog 91 ([.agg (encB x).toArray] ++ []) [] K (is (.bool (cm .gtr x.size 65536)) []) := by
  refine Ctr.enter Try.func91 Try.ntmps91 rfl rfl (fun w _ => ?_)
  unfold encB
  repeat' (first | refine C.seq ?_ | refine C.region ?_ | refine L.nil ?_ | refine D.seq ?_ | refine L.assign (k := ?_) | refine L.cm (c := ?_) | refine L.fieldAddr (c := ?_) | refine L.load1 0 (c := ?_) | refine L.box (c := fun _ => ?_) | refine C.ret ?_ | fail)
  (refine D.ret (vs := [_]) (RV.tmp rfl RV.nil) ?_; intro w' hw; exact Post.mk (is := []) hw List.nodup_nil rfl ⟨rfl, rfl⟩)
theorem head2_S (x : Bf) (K : World → Prop) : Ctr Try.prog 92 ([.agg (encB x).toArray] ++ []) [] K (is (.bool ((cm .lss x.size 1 || cm .lss x.kind 1) || cm .gtr x.kind 3)) []) := by
  refine Ctr.enter Try.func92 Try.ntmps92 rfl rfl (fun w _ => ?_)
  unfold encB
  repeat' (first | refine C.seq ?_ | refine C.region ?_ | refine L.nil ?_ | refine D.seq ?_ | refine L.move (k := ?_) | refine L.assign (k := ?_) | refine L.cm (c := ?_) | refine L.fieldAddr (c := ?_) | refine L.load1 0 (c := ?_) | refine L.box (c := fun _ => ?_) | refine L.pickT (k := ?_) | refine L.pickF (k := ?_) | refine L.want (k := ?_) | refine L.pass (k := ?_) | refine C.ret ?_ | exact D.endsG | (refine L.orB 3 (b2 := ?_) (h1 := fun hb => ?_) (h2 := fun hb => ?_) (k := ?_); rotate_left))
  (refine D.ret (vs := [_]) (RV.tmp rfl RV.nil) ?_; intro w' hw; exact Post.mk (is := []) hw List.nodup_nil rfl ⟨rfl, rfl⟩)
set_option maxHeartbeats 2000000 in
theorem head_S (regs : Int) (vb vo : Value) (bs : List Bf) (no : Nat) (so : SlV vo no) (hb : bs.length ≤ maxLen) : Ctr Try.prog 67 [progV regs vb vo] [] (fun w => Rd w [] vb bs.length (bs.flatMap encB)) (is (.int .i64 ((rhead regs bs no).getD 0)) []) := by
  refine Ctr.enter Try.func67 Try.ntmps67 rfl rfl (fun w hr => ?_)
  have s1 := hr.1
  unfold progV
  repeat' (first | refine C.seq ?_ | refine C.region ?_ | refine L.nil ?_ | refine D.seq ?_ | refine L.move (k := ?_) | refine L.assign (k := ?_) | refine L.cm (c := ?_) | refine L.fieldAddr (c := ?_) | refine L.load1 0 (c := ?_) | refine L.box (c := fun _ => ?_) | refine L.pickT (k := ?_) | refine L.pickF (k := ?_) | refine L.want (k := ?_) | refine L.pass (k := ?_) | refine C.ret ?_ | refine D.thenRet ?_ | refine C.skip ?_ | refine L.lenR s1 (c := ?_) | refine L.lenR so (c := ?_) | exact D.endsG | (refine L.orB 4 (b2 := ?_) (h1 := fun hb => ?_) (h2 := fun hb => ?_) (k := ?_); rotate_left) | refine C.yesH (h1 := ?_) | refine C.noH (h1 := ?_) | (refine C.condE (h1 := fun hc => ?_) (h2 := fun hc => ?_)))
  · rw [show rhead regs bs no = some 3 by unfold rhead; rw [if_pos (by assumption)]]
    (refine D.ret (vs := [_]) (RV.tmp rfl RV.nil) ?_; intro w' hw; exact Post.mk (is := []) hw List.nodup_nil rfl ⟨rfl, rfl⟩)
  have hc1 := hc
  have hnb : bs.length ≤ 32 := by simp [cm] at hc1; omega
  have k1 := containsB_S 91 [] (fun b => cm .gtr b.size 65536) vb bs (fun _ => True) (fun _ _ _ _ => trivial) (fun x _ => head1_S x _) (by omega)
  have k2 := containsB_S 92 [] (fun b => (cm .lss b.size 1 || cm .lss b.kind 1) || cm .gtr b.kind 3) vb bs (fun _ => True) (fun _ _ _ _ => trivial) (fun x _ => head2_S x _) (by omega)
  repeat' (first | refine C.seq ?_ | refine C.region ?_ | refine L.nil ?_ | refine D.seq ?_ | refine L.move (k := ?_) | refine L.assign (k := ?_) | refine L.cm (c := ?_) | refine L.fieldAddr (c := ?_) | refine L.load1 0 (c := ?_) | refine L.pickT (k := ?_) | refine L.pickF (k := ?_) | refine L.want (k := ?_) | refine L.pass (k := ?_) | refine C.ret ?_ | refine D.thenRet ?_ | refine C.skip ?_ | refine L.lenR s1 (c := ?_) | refine L.callQ k1 (hpre := fun w hw => ⟨hr.at hw, trivial⟩) (k := ?_) | refine L.callQ k2 (hpre := fun w hw => ⟨hr.at hw, trivial⟩) (k := ?_) | exact D.endsG | (refine L.orB 3 (b2 := ?_) (h1 := fun hb => ?_) (h2 := fun hb => ?_) (k := ?_); rotate_left) | refine C.yesH (h1 := ?_) | refine C.noH (h1 := ?_) | (refine C.condE (h1 := fun hc => ?_) (h2 := fun hc => ?_)))
  · rw [show rhead regs bs no = some 3 by unfold rhead; rw [if_neg (ne_true_of_eq_false hc1), if_pos (by assumption)]]
    (refine D.ret (vs := [_]) (RV.tmp rfl RV.nil) ?_; intro w' hw; exact Post.mk (is := []) hw List.nodup_nil rfl ⟨rfl, rfl⟩)
  · rename_i ha
    rw [show rhead regs bs no = some 2 by
      unfold rhead; rw [if_neg (ne_true_of_eq_false hc1), if_neg (ne_true_of_eq_false ha)]
      rcases Bool.or_eq_true_iff.1 hc with h | h
      · rw [if_pos h]
      · rw [if_pos h]; split <;> rfl]
    (refine D.ret (vs := [_]) (RV.tmp rfl RV.nil) ?_; intro w' hw; exact Post.mk (is := []) hw List.nodup_nil rfl ⟨rfl, rfl⟩)
  · rename_i ha
    obtain ⟨h1, h2⟩ := Bool.or_eq_false_iff.1 hc
    rw [show rhead regs bs no = none by
      unfold rhead; rw [if_neg (ne_true_of_eq_false hc1), if_neg (ne_true_of_eq_false ha), if_neg (ne_true_of_eq_false h1), if_neg (ne_true_of_eq_false h2)]]
    (refine D.ret (vs := [_]) (RV.tmp rfl RV.nil) ?_; intro w' hw; exact Post.mk (is := []) hw List.nodup_nil rfl ⟨rfl, rfl⟩)
/-- The cells of a checker: the program, what is made, the loops. -/
def ckCells (regs : Int) (vb vo : Value) (md : List Bool) (lv : Value) : List Value := .int .i64 regs :: vb :: vo :: (md.map Value.bool ++ [lv])
def putM (b : Bool) (md : List Bool) (xs : List Int) : List Bool := xs.foldl (fun l r => if cm .geq r 0 then l.set r.toNat b else l) md
theorem putM_len (b : Bool) (xs : List Int) : ∀ md : List Bool, (putM b md xs).length = md.length := by
  induction xs with
  | nil => intro l; rfl
  | cons r xs ih => intro l; show (putM b (if cm .geq r 0 then l.set r.toNat b else l) xs).length = _; rw [ih]; split <;> simp
theorem putM_take {b : Bool} {l : List Bool} {rs : List Int} {j : Nat} {q : Int} (h : rs[j]? = some q) : putM b l (rs.take (j + 1)) = if cm .geq q 0 then (putM b l (rs.take j)).set q.toNat b else putM b l (rs.take j) := by
  unfold putM; rw [List.take_add_one, h, List.foldl_append]; rfl
theorem ck_len {regs : Int} {vb vo : Value} {md : List Bool} {lv : Value} (h : md.length = 64) : (ckCells regs vb vo md lv).length = 68 := by simp [ckCells, h]
theorem ck_set {regs : Int} {vb vo : Value} {md : List Bool} {lv : Value} (k : Nat) (b : Bool) (hk : k < md.length) : (ckCells regs vb vo md lv).set (3 + k) (.bool b) = ckCells regs vb vo (md.set k b) lv := by
  unfold ckCells
  rw [show 3 + k = k + 1 + 1 + 1 by omega]
  simp only [List.set_cons_succ]
  rw [List.set_append_left _ _ (by simpa using hk), List.map_set]
theorem ck_made {regs : Int} {vb vo : Value} {md : List Bool} {lv : Value} {k : Nat} {b : Bool} (hk : md[k]? = some b) : (ckCells regs vb vo md lv)[3 + k]? = some (.bool b) := by
  have : k < md.length := (List.getElem?_eq_some_iff.1 hk).1
  unfold ckCells
  rw [show 3 + k = k + 1 + 1 + 1 by omega]
  simp only [List.getElem?_cons_succ]
  rw [List.getElem?_append_left (by simpa using this), List.getElem?_map, hk]; rfl
theorem ck_loops {regs : Int} {vb vo : Value} {md : List Bool} {lv : Value} (h : md.length = 64) : (ckCells regs vb vo md lv)[67]? = some lv := by
  unfold ckCells
  simp only [List.getElem?_cons_succ]
  rw [List.getElem?_append_right (by simp [h])]; simp [h]
theorem ck_setL {regs : Int} {vb vo : Value} {md : List Bool} {lv lv' : Value} (h : md.length = 64) : (ckCells regs vb vo md lv).set 67 lv' = ckCells regs vb vo md lv' := by
  unfold ckCells
  simp only [List.set_cons_succ]
  rw [List.set_append_right _ _ (by simp [h])]; simp [h]
theorem ck_head {regs : Int} {vb vo : Value} {md : List Bool} {lv : Value} : ((ckCells regs vb vo md lv).drop 0).take 3 = [.int .i64 regs, vb, vo] := rfl
theorem ck_ble {regs : Int} {vb vo : Value} {md : List Bool} {lv : Value} (n : Nat) (hn : n ≤ 68) (h : md.length = 64) : Nat.ble n (ckCells regs vb vo md lv).length = true := by rw [ck_len h]; exact Nat.ble_eq_true_of_le hn
theorem ck_row {regs : Int} {vb vo : Value} {md : List Bool} {lv : Value} (h : md.length = 64) : ((ckCells regs vb vo md lv).drop 3).take 64 = md.map Value.bool := by
  unfold ckCells
  simp only [List.drop_succ_cons, List.drop_zero]
  rw [List.take_append_of_le_length (by simp [h]), List.take_of_length_le (by simp [h])]
set_option maxHeartbeats 2000000 in
theorem put_S (b T : Nat) (regs : Int) (vb vo : Value) (md : List Bool) (lv : Value) (is : Bool) (v : Value) (xs : List Int) (hmd : md.length = 64) (hx : ∀ r ∈ xs, r < 64) (hl : xs.length ≤ 1000) :
    Ctr Try.prog 94 [.pointer (some ⟨b, 3, none⟩), .bool is, v] [(b, ob (ckCells regs vb vo md lv) T)] (fun w => Rd w [b] v xs.length (xs.map int)) (SL.is (shut []) [(b, ob (ckCells regs vb vo (putM is md xs) lv) T)]) := by
  refine Ctr.enter Try.func94 Try.ntmps94 rfl rfl (fun w hr => ?_)
  have s1 := hr.1
  repeat (first | refine C.seq ?_ | refine C.region ?_ | refine L.nil ?_ | refine D.seq ?_ | refine L.move (k := ?_) | refine C.block ?_ | refine L.lenR s1 (c := ?_))
  refine C.loop (α := Nat) (fun i => i ≤ xs.length) (fun i => [(0, .pointer (some ⟨b, 3, none⟩)), (1, .bool is), (8, v), (9, .int .i64 xs.length), (10, .int .i64 i)]) (fun i => [(b, ob (ckCells regs vb vo (putM is md (xs.take i)) lv) T)]) (fun i => xs.length - i) 0
    (fun a w hs => hs.lessE rfl (lk_cons rfl (lk_cons rfl (lk_cons rfl (lk_cons rfl (lk_cons rfl (fun _ _ h => lk_nil h))))))) (Nat.zero_le _) ?_
  intro i hi
  rcases Nat.lt_or_ge i xs.length with hlt | hge
  · have c1 : cm .lss (i : Int) xs.length = true := cm_lo (by omega)
    obtain ⟨x, hq⟩ : ∃ x, xs[i]? = some x := ⟨_, List.getElem?_eq_getElem hlt⟩
    have o1 := hr.2 (by omega)
    have c2 : ar .add .i64 (i : Int) 1 = ((i + 1 : Nat) : Int) := wrap_nat (by omega)
    have hx64 := hx x (List.mem_of_getElem? hq)
    have hpl : (putM is md (xs.take i)).length = 64 := by rw [putM_len, hmd]
    cases hc : cm .geq x 0 with
    | true =>
      have h0 : 0 ≤ x := by simpa [cm] using hc
      have hxi : x = (x.toNat : Int) := by omega
      have hk1 : 3 + x.toNat < (ckCells regs vb vo (putM is md (xs.take i)) lv).length := by rw [ck_len hpl]; omega
      have ho1 : 3 + x.toNat * 1 = 3 + x.toNat := by omega
      have hM1 : hset [(b, ob (ckCells regs vb vo (putM is md (xs.take i)) lv) T)] 0 (ob ((ckCells regs vb vo (putM is md (xs.take i)) lv).set (3 + x.toNat) (.bool is)) T) = [(b, ob (ckCells regs vb vo (putM is md (xs.take (i + 1))) lv) T)] := by
        simp only [hset]; rw [ck_set _ _ (by omega), putM_take hq, hc]; rfl
      repeat' (first | refine C.seq ?_ | refine C.region ?_ | refine L.nil ?_ | refine D.seq ?_ | refine L.move (k := ?_) | refine L.assign (k := ?_) | refine L.cm (c := ?_) | refine L.ar (c := ?_) | refine L.nilCheck (k := ?_) | refine C.yes (h1 := ?_) | refine C.block ?_ | refine D.blkNormal ?_ | refine C.skip ?_ | refine L.indexR s1 hlt (c := ?_) | refine L.loadF o1 (int_at hq) (c := ?_) | refine L.indexArr (k := x.toNat) hxi (by omega) (c := ?_) | refine L.storeK 0 hk1 ho1 (hM := hM1) (c := ?_))
      exact D.then_ fun a1 w1 hs => ⟨i + 1, by omega, by omega, hs.lessE rfl (lk_cons rfl (lk_cons rfl (lk_cons rfl (lk_cons rfl (lk_cons rfl (fun _ _ h => lk_nil h))))))⟩
    | false =>
      repeat' (first | refine C.seq ?_ | refine C.region ?_ | refine L.nil ?_ | refine D.seq ?_ | refine L.move (k := ?_) | refine L.assign (k := ?_) | refine L.cm (c := ?_) | refine L.ar (c := ?_) | refine C.yes (h1 := ?_) | refine C.no (h1 := ?_) | refine C.block ?_ | refine D.blkNormal ?_ | refine C.skip ?_ | refine L.indexR s1 hlt (c := ?_) | refine L.loadF o1 (int_at hq) (c := ?_))
      refine D.then_ fun a1 w1 hs => ⟨i + 1, by omega, by omega, hs.lessE ?_ (lk_cons rfl (lk_cons rfl (lk_cons rfl (lk_cons rfl (lk_cons rfl (fun _ _ h => lk_nil h))))))⟩
      rw [putM_take hq, hc]; rfl
  · have c1 : cm .lss (i : Int) xs.length = false := cm_lo' (by omega)
    repeat (first | refine C.seq ?_ | refine C.region ?_ | refine L.nil ?_ | refine D.seq ?_ | refine L.cm (c := ?_) | refine C.no (h1 := ?_) | refine C.exit ?_ | refine D.thenExit ?_ | refine D.blkExit ?_)
    rw [List.take_of_length_le hge]

    (refine D.fin (vs := []) RV.nil ?_; intro w' hw; exact Post.mkD 0 hw rfl ⟨rfl, rfl⟩)
set_option maxHeartbeats 2000000 in
theorem cin_S (b : Nat) (regs : Int) (vb vo : Value) (md : List Bool) (lv : Value) (xs : List Int) (r : Int) (hmd : md.length = 64) (hl : xs.length ≤ 1000) :
    Ctr Try.prog 95 [.pointer (some ⟨b, 0, none⟩), .int .i64 r] [] (fun w => Old w [] b 0 (ckCells regs vb vo md lv) ∧ Rd w [] lv xs.length (xs.map int)) (is (.bool (cm .geq r 0 && xs.contains r)) []) := by
  refine Ctr.enter Try.func95 Try.ntmps95 rfl rfl (fun w hr => ?_)
  have k1 := contains_S lv xs r (by omega)
  repeat' (first | refine C.seq ?_ | refine C.region ?_ | refine L.nil ?_ | refine D.seq ?_ | refine L.move (k := ?_) | refine L.assign (k := ?_) | refine L.cm (c := ?_) | refine L.fieldAddr (c := ?_) | refine L.nilCheck (k := ?_) | refine L.pickT (k := ?_) | refine L.pickF (k := ?_) | refine L.want (k := ?_) | refine L.pass (k := ?_) | refine C.ret ?_ | refine L.loadF hr.1 (ck_loops hmd) (c := ?_) | refine L.callQ k1 (hpre := fun w hw => hr.2.at hw) (k := ?_) | exact D.endsG | (refine L.andB 6 (b2 := ?_) (h1 := fun hb => ?_) (h2 := fun hb => ?_) (k := ?_); rotate_left) | refine C.yesH (h1 := ?_) | refine C.noH (h1 := ?_) | (refine C.condE (h1 := fun hc => ?_) (h2 := fun hc => ?_)))
  (refine D.ret (vs := [_]) (RV.tmp rfl RV.nil) ?_; intro w' hw; exact Post.mk (is := []) hw List.nodup_nil rfl ⟨rfl, rfl⟩)
theorem mdAt_at {l : List Bool} {r : Int} (h0 : 0 ≤ r) (h1 : r < l.length) : l[r.toNat]? = some (mdAt l r) := by
  obtain ⟨b, hb⟩ : ∃ b, l[r.toNat]? = some b := ⟨_, List.getElem?_eq_getElem (by omega)⟩
  rw [hb, mdAt_get hb]
theorem lacks1_S (bx : Nat) (md : List Bool) (hmd : md.length = 64) (r : Int) (hx : r < 64) : Ctr Try.prog 110 ([.int .i64 r] ++ [.pointer (some ⟨bx, 0, none⟩)]) [] (fun w => Old w [] bx 0 (md.map Value.bool)) (is (.bool (cm .geq r 0 && !mdAt md r)) []) := by
  refine Ctr.enter Try.func110 Try.ntmps110 rfl rfl (fun w hr => ?_)
  have hv : cm .geq r 0 = true → (md.map Value.bool)[r.toNat * 1]? = some (.bool (mdAt md r)) := fun h => by
    have h0 : 0 ≤ r := by simpa [cm] using h
    rw [Nat.mul_one, List.getElem?_map, mdAt_at h0 (by omega)]; rfl
  have hi : cm .geq r 0 = true → r = (r.toNat : Int) ∧ r.toNat < 64 := fun h => by
    have h0 : 0 ≤ r := by simpa [cm] using h
    omega
  have ho : 0 + r.toNat * 1 = 0 + r.toNat := by omega
  repeat' (first | refine C.seq ?_ | refine C.region ?_ | refine L.nil ?_ | refine D.seq ?_ | refine L.move (k := ?_) | refine L.assign (k := ?_) | refine L.cm (c := ?_) | refine L.pickT (k := ?_) | refine L.pickF (k := ?_) | refine L.want (k := ?_) | refine L.pass (k := ?_) | refine L.not (c := ?_) | refine C.ret ?_ | refine L.indexArr (k := r.toNat) (hi (by assumption)).1 (hi (by assumption)).2 (c := ?_) | refine L.loadF hr (hv (by assumption)) (c := ?_) | exact D.endsG | (refine L.andB 4 (b2 := ?_) (h1 := fun hb => ?_) (h2 := fun hb => ?_) (k := ?_); rotate_left) | refine C.yesH (h1 := ?_) | refine C.noH (h1 := ?_) | (refine C.condE (h1 := fun hc => ?_) (h2 := fun hc => ?_)))
  (refine D.ret (vs := [_]) (RV.tmp rfl RV.nil) ?_; intro w' hw; exact Post.mk (is := []) hw List.nodup_nil rfl ⟨rfl, rfl⟩)
set_option maxHeartbeats 2000000 in
theorem lacks_S (md : List Bool) (v : Value) (xs : List Int) (hmd : md.length = 64) (hx : ∀ r ∈ xs, r < 64) (hl : xs.length ≤ 1000) :
    Ctr Try.prog 96 [.agg (md.map Value.bool).toArray, v] [] (fun w => Rd w [] v xs.length (xs.map int)) (is (.bool (xs.any fun r => cm .geq r 0 && !mdAt md r)) []) := by
  refine Ctr.enter Try.func96 Try.ntmps96 rfl rfl (fun w hr => ?_)
  repeat' (first | refine C.seq ?_ | refine C.region ?_ | refine L.nil ?_ | refine D.seq ?_ | refine L.move (k := ?_) | refine L.assign (k := ?_) | refine L.box (c := fun _ => ?_) | refine L.makeFunc (k := ?_))
  rename_i bx
  have k1 := containsI_S 110 [.pointer (some ⟨bx, 0, none⟩)] (fun r => cm .geq r 0 && !mdAt md r) v xs (fun w => Old w [] bx 0 (md.map Value.bool)) (fun w w' h hw => h.at hw) (fun x hxx => lacks1_S bx md hmd x (hx x hxx)) (by omega)
  repeat' (first | refine L.nil ?_ | refine D.seq ?_ | refine L.assign (k := ?_) | refine C.ret ?_ | refine L.callQ k1 (hpre := fun w hw => ⟨hr.at hw, Old.own (hw.holds _ List.mem_cons_self) (by simp) _ (List.take_length)⟩) (k := ?_))
  (refine D.ret (vs := [_]) (RV.tmp rfl RV.nil) ?_; intro w' hw; exact Post.mk (is := []) hw List.nodup_nil rfl ⟨rfl, rfl⟩)
end Go.Proofs.Ytkjlgapkcdcmgaa
