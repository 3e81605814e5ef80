/- Several texts, one behind the other. -/
import Derived.Test.YtkjlgapkcdcmgaaLm8
import Derived.Test.YtkjlgapkcdcmgaaFrP
set_option linter.unusedVariables false
set_option linter.unusedSimpArgs false
namespace Go.Proofs.Ytkjlgapkcdcmgaa
open Go Go.RowKit SL
attribute [local irreducible] SL.L SL.C SL.D SL.N SL.H SL.QL SL.QW SL.QP

/-- The tree that a row of operations is. -/
def pt : Nat → List Lop → Pg × List Lop
  | 0, os => (.nil, os)
  | _ + 1, [] => (.nil, [])
  | n + 1, o :: os =>
    if cm .eql o.k 17 then (.nil, o :: os)
    else if cm .eql o.k 16 then (.loop o (pt n os).1 (pt n ((pt n os).2.drop 1)).1, (pt n ((pt n os).2.drop 1)).2)
    else (.op o (pt n os).1, (pt n os).2)
theorem pt_flat {regs : Int} {bs : List Bf} : ∀ (n : Nat) (p : Pg) (ls : List Int) (rest : List Lop), p.Safe regs bs ls → p.flat.length < n → (rest = [] ∨ ∃ e t, rest = e :: t ∧ e.k = 17) → pt n (p.flat ++ rest) = (p, rest)
  | 0, _, _, _, _, h, _ => by omega
  | n + 1, .nil, ls, rest, _, _, hr => by
    rcases hr with rfl | ⟨e, t, rfl, he⟩
    · rfl
    · show (if cm .eql e.k 17 then _ else _) = _
      rw [if_pos (cm_yes he)]
  | n + 1, .op o r, ls, rest, hs, h, hr => by
    obtain ⟨_, h16, h17, _, hrS⟩ := hs
    simp only [Pg.flat, List.length_cons] at h
    have ih := pt_flat n r ls rest hrS (by omega) hr
    show (if cm .eql o.k 17 then _ else if cm .eql o.k 16 then _ else (Pg.op o (pt n (r.flat ++ rest)).1, (pt n (r.flat ++ rest)).2)) = _
    rw [if_neg (by rw [cm_no h17]; simp), if_neg (by rw [cm_no h16]; simp), ih]
  | n + 1, .loop o b r, ls, rest, hs, h, hr => by
    obtain ⟨_, h16, _, hbS, hrS⟩ := hs
    simp only [Pg.flat, List.length_cons, List.length_append] at h
    have ih1 := pt_flat n b _ (endO :: (r.flat ++ rest)) hbS (by omega) (.inr ⟨_, _, rfl, rfl⟩)
    have ih2 := pt_flat n r ls rest hrS (by omega) hr
    have e : (Pg.loop o b r).flat ++ rest = o :: (b.flat ++ (endO :: (r.flat ++ rest))) := by simp [Pg.flat]
    rw [e]
    show (if cm .eql o.k 17 then _ else if cm .eql o.k 16 then (Pg.loop o (pt n (b.flat ++ (endO :: (r.flat ++ rest)))).1 (pt n ((pt n (b.flat ++ (endO :: (r.flat ++ rest)))).2.drop 1)).1, (pt n ((pt n (b.flat ++ (endO :: (r.flat ++ rest)))).2.drop 1)).2) else _) = _
    rw [if_neg (by rw [cm_no (by omega)]; simp), if_pos (cm_yes h16), ih1]
    simp only [List.drop_succ_cons, List.drop_zero]
    rw [ih2]
/-- .. of a program that may be. -/
def treeOf (os : List Lop) : Pg := (pt (os.length + 1) os).1
theorem tree_eq {regs : Int} {bs : List Bf} {p : Pg} {ls : List Int} (h : p.Safe regs bs ls) : treeOf p.flat = p := by
  unfold treeOf
  have := pt_flat (p.flat.length + 1) p ls [] h (by omega) (.inl rfl)
  rw [List.append_nil] at this
  rw [this]
theorem op12_S (k d e a b c imm : Int) : Ctr Try.prog 34 [.int .i64 k, .int .i64 d, .int .i64 e, .int .i64 a, .int .i64 b, .int .i64 c, .int .u64 imm] [] tt (is (.agg #[.int .i64 k, .int .i64 d, .int .i64 e, .int .i64 a, .int .i64 b, .int .i64 c, .int .i64 0, .int .u64 imm]) []) := by
  refine Ctr.enter Try.func34 Try.ntmps34 rfl rfl (fun w _ => ?_)
  repeat' (first | refine C.seq ?_ | refine C.region ?_ | refine L.nil ?_ | refine D.seq ?_ | refine L.move (k := ?_) | refine L.storeV 0 (c := ?_) | refine L.build (c := ?_) | refine L.alloc (c := fun _ => ?_) | refine C.ret ?_)
  refine D.ret (vs := [_]) (RV.cellA 0 rfl rfl rfl rfl rfl RV.nil) ?_
  intro w' hw
  exact Post.mk (is := []) hw List.nodup_nil rfl ⟨rfl, rfl⟩
theorem end12_S : Ctr Try.prog 36 [] [] tt (is (.agg #[.int .i64 17, .int .i64 (-1), .int .i64 (-1), .int .i64 (-1), .int .i64 (-1), .int .i64 (-1), .int .i64 0, .int .u64 0]) []) := by
  refine Ctr.enter Try.func36 Try.ntmps36 rfl rfl (fun w _ => ?_)
  repeat' (first | refine C.seq ?_ | refine C.region ?_ | refine L.nil ?_ | refine D.seq ?_ | refine L.storeV 0 (c := ?_) | refine L.alloc (c := fun _ => ?_) | refine C.ret ?_ | refine L.callQ (op12_S _ _ _ _ _ _ _) (k := ?_))
  refine D.ret (vs := [_]) (RV.cellA 0 rfl rfl rfl rfl rfl RV.nil) ?_
  intro w' hw
  exact Post.mk (is := []) hw List.nodup_nil rfl ⟨rfl, rfl⟩
def xB : List Bf := [⟨2, 2, false⟩]
def xO : List Lop := [⟨16, 0, -1, -1, -1, -1, 0, 2⟩, ⟨15, -1, -1, 0, 0, -1, 0, 0⟩, endO]
set_option maxHeartbeats 2000000 in
theorem example12_S : Ctr Try.prog 40 [] [] tt (fun v B => ∃ b1 b2, v = progV 2 (.slice (some ⟨b1, 0, none⟩) 1 1) (.slice (some ⟨b2, 0, none⟩) 3 3) ∧ B = [(b2, ob (xO.flatMap encO) 39), (b1, ob (xB.flatMap encB) 33)]) := by
  refine Ctr.enter Try.func40 Try.ntmps40 rfl rfl (fun w _ => ?_)
  repeat' (first | refine C.seq ?_ | refine C.region ?_ | refine L.nil ?_ | refine D.seq ?_ | refine L.storeV 2 (c := ?_) | refine L.build (c := ?_) | refine L.alloc (c := fun _ => ?_) | refine C.ret ?_ | refine L.buildS (c := fun _ => ?_) | refine L.callQ (op12_S _ _ _ _ _ _ _) (k := ?_) | refine L.callQ end12_S (k := ?_))
  refine D.ret (vs := [_]) (RV.cellA 2 rfl rfl rfl rfl rfl RV.nil) ?_
  intro w' hw
  exact Post.mk (is := [0, 1]) hw (by decide) rfl ⟨_, _, rfl, rfl⟩
set_option maxHeartbeats 4000000 in
theorem rowsEq_S (v u : Value) (ra rb : Rws) (hb : ra.length ≤ 1000000) (hsm : ∀ r ∈ ra, r.2.length ≤ 1000000) : Ctr Try.prog 38 [v, u] []
    (fun w => RdR w [] v ra ∧ RdR w [] u rb) (is (.bool (decide (ra.map (·.2) = rb.map (·.2)))) []) := by
  refine Ctr.enter Try.func38 Try.ntmps38 rfl rfl (fun w hr => ?_)
  have sa := hr.1.1.1
  have sb := hr.2.1.1
  by_cases hl : ra.length ≠ rb.length
  · have c1 : cm .neq (ra.length : Int) rb.length = true := cm_ne (by omega)
    repeat' (first | refine C.seq ?_ | refine C.region ?_ | refine L.nil ?_ | refine D.seq ?_ | refine L.move (k := ?_) | refine L.assign (k := ?_) | refine L.cm (c := ?_) | refine C.yes (h1 := ?_) | refine C.ret ?_ | refine D.thenRet ?_ | refine L.lenR sa (c := ?_) | refine L.lenR sb (c := ?_))
    (refine D.ret (vs := [_]) (RV.tmp rfl RV.nil) ?_; intro w' hw; exact Post.mk (is := []) hw List.nodup_nil rfl ⟨by rw [decide_eq_false (fun e => hl (by simpa using congrArg List.length e))]; rfl, rfl⟩)
  replace hl : ra.length = rb.length := by omega
  have c1 : cm .neq (ra.length : Int) rb.length = false := cm_ne' (by omega)
  repeat' (first | refine C.seq ?_ | refine C.region ?_ | refine L.nil ?_ | refine D.seq ?_ | refine L.move (k := ?_) | refine L.assign (k := ?_) | refine L.cm (c := ?_) | refine C.no (h1 := ?_) | refine C.block ?_ | refine C.skip ?_ | refine L.lenR sa (c := ?_) | refine L.lenR sb (c := ?_))
  refine C.loop (α := Nat) (fun i => i ≤ ra.length ∧ (ra.map (·.2)).take i = (rb.map (·.2)).take i) (fun i => [(0, v), (1, u), (5, .int .i64 i)]) (fun _ => []) (fun i => ra.length - i) 0
    (fun a w hs => hs.lessE rfl (lk_cons rfl (lk_cons rfl (lk_cons rfl (fun _ _ h => lk_nil h))))) ⟨Nat.zero_le _, rfl⟩ ?_
  rintro i ⟨hi, ht⟩
  rcases Nat.lt_or_ge i ra.length with hlt | hge
  · have c2 : cm .lss (i : Int) ra.length = true := cm_lo (by omega)
    have c3 : ar .add .i64 (i : Int) 1 = ((i + 1 : Nat) : Int) := wrap_nat (by omega)
    obtain ⟨r, hy⟩ : ∃ r, ra[i]? = some r := ⟨_, List.getElem?_eq_getElem hlt⟩
    obtain ⟨q, hq⟩ : ∃ q, rb[i]? = some q := ⟨_, List.getElem?_eq_getElem (by omega)⟩
    have hlb : i < rb.length := by omega
    have o1 := hr.1.1.2 (by omega)
    have o2 := hr.2.1.2 (by omega)
    have h1 := hr.1.2 r (List.mem_of_getElem? hy)
    have h2 := hr.2.2 q (List.mem_of_getElem? hq)
    have kU := sameU_S r.1 q.1 r.2 q.2 (hsm r (List.mem_of_getElem? hy))
    cases hd : decide (r.2 = q.2) with
    | true =>
      rw [hd] at kU
      repeat' (first | refine C.quiet (h := ?_) | refine C.seq ?_ | refine C.region ?_ | refine L.nil ?_ | refine D.seq ?_ | refine L.move (k := ?_) | refine L.assign (k := ?_) | refine L.cm (c := ?_) | refine L.ar (c := ?_) | refine C.yes (h1 := ?_) | refine C.no (h1 := ?_) | refine L.not (c := ?_) | refine C.block ?_ | refine D.blkNormal ?_ | refine C.skip ?_ | exact D.endsQ | refine QL.fin ?_ | (refine QL.step (v := ?_) (by exact rfl) (by exact rfl) ?_ ?_; rotate_left) | refine L.lenR sa (c := ?_) | refine L.indexR sa hlt (c := ?_) | refine L.indexR sb hlb (c := ?_) | refine L.loadF o1 (enc_at (enc := Prod.fst) hy) (c := ?_) | refine L.loadF o2 (enc_at (enc := Prod.fst) hq) (c := ?_) | refine L.callQ kU (hpre := fun w1 hw => ⟨h1.at hw, h2.at hw⟩) (k := ?_))
      refine D.then_ fun a1 w1 hs => ⟨i + 1, ⟨by omega, ?_⟩, by omega, hs.lessE rfl (lk_cons rfl (lk_cons rfl (lk_cons rfl (fun _ _ h => lk_nil h))))⟩
      rw [List.take_add_one, List.take_add_one, ht, List.getElem?_map, List.getElem?_map, hy, hq]
      simp [of_decide_eq_true hd]
    | false =>
      rw [hd] at kU
      repeat' (first | refine C.quiet (h := ?_) | refine C.seq ?_ | refine C.region ?_ | refine L.nil ?_ | refine D.seq ?_ | refine L.move (k := ?_) | refine L.assign (k := ?_) | refine L.cm (c := ?_) | refine C.yes (h1 := ?_) | refine L.not (c := ?_) | refine C.block ?_ | refine C.ret ?_ | refine D.thenRet ?_ | refine D.blkRet ?_ | refine C.skip ?_ | exact D.endsQ | refine QL.fin ?_ | (refine QL.step (v := ?_) (by exact rfl) (by exact rfl) ?_ ?_; rotate_left) | refine L.lenR sa (c := ?_) | refine L.indexR sa hlt (c := ?_) | refine L.indexR sb hlb (c := ?_) | refine L.loadF o1 (enc_at (enc := Prod.fst) hy) (c := ?_) | refine L.loadF o2 (enc_at (enc := Prod.fst) hq) (c := ?_) | refine L.callQ kU (hpre := fun w1 hw => ⟨h1.at hw, h2.at hw⟩) (k := ?_))
      (refine D.ret (vs := [_]) (RV.tmp rfl RV.nil) ?_; intro w' hw; exact Post.mk (is := []) hw List.nodup_nil rfl ⟨by
        rw [decide_eq_false (fun e => of_decide_eq_false hd (by
          have := congrArg (fun l : List (List Int) => l[i]?) e
          simp only [List.getElem?_map, hy, hq, Option.map_some, Option.some.injEq] at this
          exact this))]; rfl, rfl⟩)
  · have c2 : cm .lss (i : Int) ra.length = false := cm_lo' (by omega)
    rw [List.take_of_length_le (by simp; omega), List.take_of_length_le (by simp; omega)] at ht
    repeat' (first | refine C.seq ?_ | refine C.region ?_ | refine L.nil ?_ | refine D.seq ?_ | refine L.move (k := ?_) | refine L.assign (k := ?_) | refine L.cm (c := ?_) | refine C.no (h1 := ?_) | refine C.ret ?_ | refine C.exit ?_ | refine D.thenExit ?_ | refine D.blkExit ?_ | refine L.lenR sa (c := ?_))
    (refine D.ret (vs := [_]) (RV.tmp rfl RV.nil) ?_; intro w' hw; exact Post.mk (is := []) hw List.nodup_nil rfl ⟨by rw [decide_eq_true ht]; rfl, rfl⟩)
theorem x_ok : (checkM 2 xB xO).2 = 0 := by decide +kernel
theorem x_run (v : Value) : (((treeOf xO).exec 0 (initL xB [(v, [7, 7])])).1.bufs = [[0, 1]]) ∧ ((treeOf xO).exec 0 (initL xB [(v, [7, 7])])).1.l = [⟨0, -1⟩, ⟨1, 0⟩, ⟨0, -1⟩, ⟨1, 1⟩] ∧ ((treeOf xO).exec 0 (initL xB [(v, [7, 7])])).2 = true := by
  have e : initL xB [(v, [7, 7])] = ⟨List.replicate 64 0, [[7, 7]], []⟩ := rfl
  rw [e]
  decide +kernel
end Go.Proofs.Ytkjlgapkcdcmgaa
namespace Go.Proofs.Ytkjlgapkcdcmgaa
open Go Go.RowKit SL
attribute [local irreducible] SL.L SL.C SL.D SL.N SL.H SL.QL SL.QW SL.QP

theorem rwsOf_snd {ls : List (List Int)} {ys : List OS} (h : ys.length = ls.length) : (rwsOf ls ys).map (·.2) = ls := by
  unfold rwsOf
  rw [List.map_map]
  show (ls.zip ys).map (fun x => x.1) = ls
  rw [List.map_fst_zip (by omega)]
theorem rdR_one {w : World} {A : List Nat} {v r : Value} {l : List Int} (h1 : Rd w A v 1 [r]) (h2 : Rd w A r l.length (l.map u64)) : RdR w A v [(r, l)] :=
  ⟨h1, fun q hq => by rw [List.mem_singleton] at hq; subst hq; exact h2⟩
set_option maxHeartbeats 4000000 in
theorem lives12_S : Ctr Try.prog 31 [] [] tt (is (.bool true) []) := by
  refine Ctr.enter Try.func31 Try.ntmps31 rfl rfl (fun w _ => ?_)
  repeat' (first | refine C.seq ?_ | refine C.region ?_ | refine L.nil ?_ | refine D.seq ?_ | refine L.assign (k := ?_))
  refine L.callP [] example12_S (k := ?_)
  rintro v B ⟨b1, b2, rfl, rfl⟩
  rw [hdrop_nil]
  simp only [List.cons_append, List.nil_append]
  repeat' (first | refine L.buildS (c := fun _ => ?_))
  rename_i c1 c2
  refine L.callP [] (lrun_S 2 (.slice (some ⟨b1, 0, none⟩) 1 1) (.slice (some ⟨b2, 0, none⟩) 3 3) (.slice (some ⟨c2, 0, none⟩) 1 1) xB xO [(.slice (some ⟨c1, 0, none⟩) 2 2, [7, 7])] (by unfold maxLen; decide)
    (by intro o ho; simp [xO] at ho; rcases ho with rfl | rfl | rfl <;> exact ⟨by decide, by decide⟩) (by intro r hr; simp at hr; subst hr; intro x hx; simp at hx; subst hx; exact ⟨by decide, by decide⟩))
    (hpre := fun w hw => ⟨⟨Rd.own (hw.holds _ mem3) (by simp) (Nat.le_refl _) 3 rfl, Rd.own (hw.holds _ mem2) (by simp) (Nat.le_refl _) 24 rfl⟩, rdR_one (Rd.own (hw.holds _ mem0) (by simp) (Nat.le_refl _) 1 rfl) (Rd.own (hw.holds _ mem1) (by simp) (Nat.le_refl _) 2 rfl)⟩) (k := ?_)
  intro u1 B1 hu
  rw [hdrop_nil]
  unfold lrunR at hu
  rw [if_neg (by rw [x_ok]; decide), if_neg (by decide +kernel), if_neg (by simp [rowsM, sizesM, okRow, xB, cm])] at hu
  obtain ⟨p, x, h, hp, hpS, hx, g, hB, hd⟩ := hu
  have ht := tree_eq hpS
  rw [← hp] at ht
  have xr := x_run (.slice (some ⟨c1, 0, none⟩) 2 2)
  rw [ht, hx] at xr
  obtain ⟨xb, xl, x2⟩ := xr
  rcases hd with ⟨_, rfl, rfl⟩ | ⟨h2, _, _⟩
  · unfold shut
    refine L.base _ (M' := []) (List.append_nil _).symm (fun w2 hw2 => ?_)
    have rR := own_rdR g.b rfl g.y hw2 (fun x hx => by simp [hx]) (fun x hx => by simp [hx])
    have rE : Rd w2 [] (osV x.1.l.length h.ly) x.1.l.length (x.1.l.flatMap encE) := g.l.rdm (T := 55) hw2 (fun x hx => by simp [hx])
    have hsn := rwsOf_snd g.b.1
    have hrl := rwsOf_len g.b.1
    have hl1 : x.1.bufs.length = 1 := by rw [xb]; rfl
    have kR := fun (d1 d2 : Nat) => rowsEq_S (osV x.1.bufs.length h.y) (.slice (some ⟨d2, 0, none⟩) 1 1) (rwsOf x.1.bufs h.ys) [(.slice (some ⟨d1, 0, none⟩) 2 2, [0, 1])] (by omega) (fun r hr => by
      have : r.2 ∈ (rwsOf x.1.bufs h.ys).map (·.2) := List.mem_map.2 ⟨r, hr, rfl⟩
      rw [hsn, xb] at this
      simp at this; rw [this]; decide)
    have hdc : ∀ d1 : Nat, decide ((rwsOf x.1.bufs h.ys).map (·.2) = ([(.slice (some ⟨d1, 0, none⟩) 2 2, [0, 1])] : Rws).map (·.2)) = true := fun d1 => decide_eq_true (by rw [hsn, xb]; rfl)
    have kE := fun (d : Nat) => sameE_S (osV x.1.l.length h.ly) (.slice (some ⟨d, 0, none⟩) 4 4) x.1.l [⟨0, -1⟩, ⟨1, 0⟩, ⟨0, -1⟩, ⟨1, 1⟩] (by rw [xl]; decide)
    rw [decide_eq_true xl] at kE
    have z1 : cm .eql (0 : Int) 0 = true := rfl
    repeat' (first | refine C.seq ?_ | refine C.region ?_ | refine L.nil ?_ | refine L.move (k := ?_) | refine L.assign (k := ?_) | refine L.cm (c := ?_) | refine L.extract (c := ?_) | refine L.want (k := ?_) | refine D.seqR (h := ?_) | refine L.buildS (c := fun _ => ?_))
    rename_i d1 d2
    have kR1 := kR d1 d2
    rw [hdc d1] at kR1
    refine L.callQ kR1 (hpre := fun w1 hw => ⟨rR.at hw, rdR_one (Rd.own (hw.holds _ mem0) (by simp) (Nat.le_refl _) 1 rfl) (Rd.own (hw.holds _ mem1) (by simp) (Nat.le_refl _) 2 rfl)⟩) (k := ?_)
    repeat' (first | refine L.move (k := ?_) | refine L.build (c := ?_) | refine L.pickT (k := ?_) | refine L.want (k := ?_) | refine L.buildS (c := fun _ => ?_))
    rename_i d3
    refine L.callQ (kE d3) (hpre := fun w1 hw => ⟨rE.at hw, Rd.own (hw.holds _ mem0) (by simp) (Nat.le_refl _) 8 rfl⟩) (k := ?_)
    repeat' (first | refine L.nil ?_ | refine D.seq ?_ | refine L.assign (k := ?_) | refine L.pickT (k := ?_) | refine C.ret ?_)
    refine D.ret (vs := [_]) (RV.tmp rfl RV.nil) ?_
    intro w' hw
    exact Post.mkD 3 (At.back (at_nilr hw2) hw) rfl ⟨rfl, rfl⟩
  · rw [x2] at h2; cases h2
/-- What a run keeps: what each of its steps keeps. -/
theorem exec_rel {os : List Lop} {regs : Int} {bs : List Bf} (R : RS → RS → Prop) (refl : ∀ s, R s s) (trans : ∀ a b c, R a b → R b c → R a c)
    (op : ∀ (o : Lop) (i : Nat) (s s' : RS), os[i]? = some o → rfields regs bs o = true → o.k ≠ 16 → o.k ≠ 17 → stepO o i s = some s' → R s s')
    (loop : ∀ (o : Lop) (i n : Nat) (s : RS), os[i]? = some o → rfields regs bs o = true → o.k = 16 → R s ⟨s.r.set o.d.toNat n, s.bufs, s.l ++ [⟨i, -1⟩]⟩) :
    ∀ (p : Pg) (ls : List Int) (i : Nat) (rest : List Lop) (s : RS), p.Safe regs bs ls → os.drop i = p.flat ++ rest → R s (p.exec i s).1
  | .nil, ls, i, rest, s, _, _ => refl s
  | .op o r, ls, i, rest, s, hs, hd => by
    obtain ⟨hf, h16, h17, _, hrS⟩ := hs
    obtain ⟨_, _, hd2, ho⟩ := opAt_drop (rest := r.flat ++ rest) hd
    unfold Pg.exec
    cases hst : stepO o i s with
    | none => exact refl s
    | some s' => exact trans _ _ _ (op o i s s' ho hf h16 h17 hst) (exec_rel R refl trans op loop r ls (i + 1) rest s' hrS hd2)
  | .loop o b r, ls, i, rest, s, hs, hd => by
    obtain ⟨hf, h16, _, hbS, hrS⟩ := hs
    have h' : os.drop i = o :: (b.flat ++ (endO :: (r.flat ++ rest))) := by rw [hd]; simp [Pg.flat]
    obtain ⟨_, _, hd2, ho⟩ := opAt_drop h'
    obtain ⟨_, g2⟩ := stk_flat b _ (i + 1) _ hbS hd2
    obtain ⟨_, _, hd3, _⟩ := opAt_drop g2
    have it : ∀ (m n : Nat) (s : RS), R s (iter (fun n s => b.exec (i + 1) ⟨s.r.set o.d.toNat n, s.bufs, s.l ++ [⟨i, -1⟩]⟩) n m s).1 := by
      intro m
      induction m with
      | zero => intro n s; exact refl s
      | succ m ih =>
        intro n s
        have h1 := loop o i n s ho hf h16
        have h2 := exec_rel R refl trans op loop b _ (i + 1) _ ⟨s.r.set o.d.toNat n, s.bufs, s.l ++ [⟨i, -1⟩]⟩ hbS hd2
        unfold iter
        cases hx : b.exec (i + 1) ⟨s.r.set o.d.toNat n, s.bufs, s.l ++ [⟨i, -1⟩]⟩ with
        | mk s' ok =>
          rw [hx] at h2
          cases ok with
          | false => exact trans _ _ _ h1 h2
          | true => exact trans _ _ _ (trans _ _ _ h1 h2) (ih (n + 1) s')
    have h3 := it o.imm.toNat 0 s
    unfold Pg.exec
    revert h3
    cases iter (fun n s => b.exec (i + 1) ⟨s.r.set o.d.toNat n, s.bufs, s.l ++ [⟨i, -1⟩]⟩) 0 o.imm.toNat s with
    | mk s' ok =>
      cases ok with
      | false => intro h3; exact h3
      | true => intro h3; exact trans _ _ _ h3 (exec_rel R refl trans op loop r ls (i + b.flat.length + 2) rest s' hrS (by rw [show i + b.flat.length + 2 = i + 1 + b.flat.length + 1 by omega]; exact hd3))
/-- What may be seen of an operation. -/
def EvOk (os : List Lop) (bs : List Bf) (e : Ev) : Prop :=
  0 ≤ e.op ∧ e.op < os.length ∧ ∃ o, os[e.op.toNat]? = some o ∧ o.k ≠ 17 ∧ (if cm .eql o.k 14 || cm .eql o.k 15 then 0 ≤ e.at_ ∧ e.at_ < (bAt bs o.buf).size ∧ 0 ≤ o.buf ∧ o.buf < bs.length else e.at_ = -1)
structure Keep (os : List Lop) (bs : List Bf) (s t : RS) : Prop where
  bl : t.bufs.length = s.bufs.length
  len : ∀ k, (bufAt t k).length = (bufAt s k).length
  same : ∀ k, (bAt bs k).kind = 1 → bufAt t k = bufAt s k
  ev : (∀ k : Int, 0 ≤ k → k < bs.length → (bufAt s k).length = (bAt bs k).size) → (∀ e ∈ s.l, EvOk os bs e) → ∀ e ∈ t.l, EvOk os bs e
theorem keep_all {os : List Lop} {regs : Int} {bs : List Bf} {p : Pg} (h : p.Safe regs bs []) (he : os = p.flat) (s : RS) : Keep os bs s (p.exec 0 s).1 := by
  refine exec_rel (os := os) (regs := regs) (bs := bs) (Keep os bs) (fun s => ⟨rfl, fun _ => rfl, fun _ _ => rfl, fun _ h => h⟩) (fun a b c h1 h2 => ⟨h2.bl.trans h1.bl, fun k => (h2.len k).trans (h1.len k), fun k hk => (h2.same k hk).trans (h1.same k hk), fun hl hv => h2.ev (fun k h0 h3 => by rw [h1.len k]; exact hl k h0 h3) (h1.ev hl hv)⟩) ?_ ?_ p [] 0 [] s h (by rw [he]; simp)
  · intro o i s s' ho hf h16 h17 hst
    obtain ⟨⟨e, heo, hel⟩, hbl, hlen⟩ := stepO_ev hst
    have hlt := (List.getElem?_eq_some_iff.1 ho).1
    refine ⟨hbl, hlen, fun k hk => ?_, fun hl hv => ?_⟩
    · unfold stepO at hst
      cases hm : (cm .eql o.k 14 || cm .eql o.k 15) with
      | false => rw [hm] at hst; simp only [Bool.false_eq_true, if_false] at hst; cases hst; rfl
      | true =>
        rw [hm] at hst
        simp only [if_true] at hst
        split at hst
        · cases hst
        · cases hst
          cases hk15 : cm .eql o.k 15 with
          | false => rfl
          | true =>
            simp only [if_true]
            obtain ⟨hb0, hb1, _, _⟩ := mem_fields hf hm
            have hko : (bAt bs o.buf).kind ≠ 1 := by
              obtain ⟨g1, g2⟩ := rf_bad hf
              have := hf
              unfold rfields at this
              rw [if_neg (ne_true_of_eq_false g1), if_neg (ne_true_of_eq_false g2)] at this
              rw [show mem o = true from hm] at this
              simp only [if_true] at this
              intro e1
              rw [hk15, cm_yes e1] at this
              simp at this
            have hb := bufAt_set s o.buf.toNat ((bufAt s o.buf).set (ar .add .u64 o.imm (rAt s.r o.a)).toNat (rAt s.r o.b)) k
            show ((s.bufs.set o.buf.toNat ((bufAt s o.buf).set (ar .add .u64 o.imm (rAt s.r o.a)).toNat (rAt s.r o.b)))[k.toNat]?).getD [] = _
            have hb' : ((s.bufs.set o.buf.toNat ((bufAt s o.buf).set (ar .add .u64 o.imm (rAt s.r o.a)).toNat (rAt s.r o.b)))[k.toNat]?).getD [] = _ := hb
            rw [hb', if_neg]
            rintro ⟨hk2, _⟩
            apply hko
            have : bAt bs o.buf = bAt bs k := by unfold bAt; rw [hk2]
            rw [this]; exact hk
    · rw [hel]
      intro x hx
      rcases List.mem_append.1 hx with h1 | h1
      · exact hv x h1
      · rw [List.mem_singleton] at h1
        subst h1
        rw [EvOk, heo]
        refine ⟨by omega, by omega, o, by simpa using ho, h17, ?_⟩
        unfold stepO at hst
        cases hm : (cm .eql o.k 14 || cm .eql o.k 15) with
        | false =>
          rw [hm] at hst
          simp only [Bool.false_eq_true, if_false] at hst ⊢
          cases hst
          have := List.append_cancel_left hel
          simp at this
          rw [← this]
        | true =>
          rw [hm] at hst
          simp only [if_true] at hst ⊢
          obtain ⟨hb0, hb1, _, _⟩ := mem_fields hf hm
          split at hst
          · cases hst
          · rename_i hc
            cases hst
            have h2 := List.append_cancel_left hel
            simp at h2
            rw [← h2]
            have hn := ar_u64 o.imm (rAt s.r o.a)
            have h3 := hl o.buf hb0 hb1
            simp [cm] at hc
            exact ⟨hn, by simp only; omega, hb0, hb1⟩
  · intro o i n s ho hf h16
    have hlt := (List.getElem?_eq_some_iff.1 ho).1
    refine ⟨rfl, fun _ => rfl, fun _ _ => rfl, fun hl hv x hx => ?_⟩
    rcases List.mem_append.1 hx with h1 | h1
    · exact hv x h1
    · rw [List.mem_singleton] at h1
      subst h1
      refine ⟨by simp only; omega, by simp only; omega, o, by simpa using ho, by omega, ?_⟩
      rw [cm_no (show o.k ≠ 14 by omega), cm_no (show o.k ≠ 15 by omega)]
      rfl
end Go.Proofs.Ytkjlgapkcdcmgaa
namespace Go.Proofs.Ytkjlgapkcdcmgaa
open Go.ChangeShapes Go.WideShapes Go.ChangeAt Go.RowKit SL

theorem trod_u64 {H : Type} {enc : TypeId × Value → H} {W : World} {base : Nat} {sp : Nat → Bool} {held : Bool} {fuel : Nat} {cs : List Value} {x : DataW H × List MemPlace}
    (hf : DataW.trod enc Try.prog W base sp held fuel 37 cs = some x) : ∃ y : Int, cs = [.int .u64 y] ∧ U64 y := by
  obtain ⟨a, e, _, w⟩ := DataW.trod_int Try.underlying37 hf
  exact ⟨a, e, u64_of_wf w⟩
theorem flat_one {α : Type} (f : α → Value) (l : List α) : l.flatMap (fun x => [f x]) = l.map f := by
  induction l with
  | nil => rfl
  | cons a l ih => simp [ih]
theorem trod_row {H : Type} {enc : TypeId × Value → H} {W : World} {base : Nat} {sp : Nat → Bool} {held : Bool} {fuel : Nat} {cs : List Value} {x : DataW H × List MemPlace}
    (hf : DataW.trod enc Try.prog W base sp held fuel 47 cs = some x) : ∃ y : Value × List Int, cs = [y.1] ∧ ((∀ u ∈ y.2, U64 u) ∧ y.2.length ≤ maxLen ∧ Rd W [] y.1 y.2.length (y.2.map u64)) := by
  obtain ⟨v, l, hv, h1, h2, h3⟩ := open_rowsG Try.underlying47 (show Try.prog.cellsOf 37 = 0 + 1 by kernel_rfl) (fun x : Int => [.int .u64 x]) (fun _ => rfl) U64 (fun _ _ _ _ hf => trod_u64 hf) hf
  rw [flat_one] at h3
  exact ⟨(v, l), hv, h1, h2, h3⟩
/-- What an argument of rows is. -/
structure RowsA (W : World) (v : Value) (rs : Rws) : Prop where
  len : rs.length ≤ maxLen
  ok : ∀ r ∈ rs, (∀ u ∈ r.2, U64 u) ∧ r.2.length ≤ maxLen
  rd : RdR W [] v rs
set_option maxRecDepth 100000 in
theorem open_rows {H : Type} {enc : TypeId × Value → H} {W : World} {base b : Nat} {sp : Nat → Bool} {held : Bool} {r : Reach} {v : Value} {d : DataW H} {ps : List MemPlace} (hok : Value.okWide Try.prog W r b 43 v)
    (h : DataW.Trod enc Try.prog W base sp held 43 v d ps) : ∃ rs : Rws, RowsA W v rs := by
  obtain ⟨a, len, cap, rfl⟩ := okWide_slice Try.underlying43 hok
  obtain ⟨fuel, hf⟩ := h
  obtain ⟨v', l, hv, h1, h2, h3⟩ := open_rowsG Try.underlying43 (show Try.prog.cellsOf 47 = 0 + 1 by kernel_rfl) (fun y : Value × List Int => [y.1]) (fun _ => rfl) (fun y => (∀ u ∈ y.2, U64 u) ∧ y.2.length ≤ maxLen ∧ Rd W [] y.1 y.2.length (y.2.map u64)) (fun _ _ _ _ hf => trod_row hf) hf
  have e : (.slice a len cap : Value) = v' := by simpa [Value.cells] using hv
  subst e
  rw [flat_one] at h3
  exact ⟨l, h2, fun r hr => ⟨(h1 r hr).1, (h1 r hr).2.1⟩, h3, fun r hr => (h1 r hr).2.2⟩
end Go.Proofs.Ytkjlgapkcdcmgaa
