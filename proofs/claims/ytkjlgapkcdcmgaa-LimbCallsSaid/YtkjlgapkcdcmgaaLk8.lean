/- keysmithref12.Check: the walk. -/
import Derived.Test.YtkjlgapkcdcmgaaLk8a
import Derived.Test.YtkjlgapkcdcmgaaSepGZ
set_option linter.unusedVariables false
set_option linter.unusedSimpArgs false
namespace Go.Proofs.Ytkjlgapkcdcmgaa
open Go Go.RowKit SL
attribute [local irreducible] SL.L SL.C SL.D SL.N SL.H SL.QL SL.QW SL.QP

theorem take_any {α : Type} {p : α → Bool} {xs : List α} {i : Nat} {x : α} (hx : xs[i]? = some x) : (xs.take (i + 1)).any p = ((xs.take i).any p || p x) := by
  rw [List.take_add_one, hx, List.any_append]; simp
theorem any_at {α : Type} {p : α → Bool} {xs : List α} {i : Nat} {x : α} (hx : xs[i]? = some x) (h : p x = true) : xs.any p = true := List.any_eq_true.2 ⟨x, List.mem_of_getElem? hx, h⟩
theorem mset_at (mb : Nat) (l : List Bool) (k : Nat) (b : Bool) (x : Nat × Obj) (z : Hp) : hset (x :: (mb, ob (l.map Value.bool) 4) :: z) 1 (ob ((l.map Value.bool).set k (.bool b)) 4) = x :: (mb, ob ((l.set k b).map Value.bool) 4) :: z := by
  simp only [hset]; rw [List.map_set]
theorem encO_ex (o : Lop) : encO o = [.int .i64 o.k, .int .i64 o.d, .int .i64 o.e, .int .i64 o.a, .int .i64 o.b, .int .i64 o.c, .int .i64 o.buf, .int .u64 o.imm] := rfl
set_option maxRecDepth 100000 in
set_option maxHeartbeats 8000000 in
theorem rcheck_S (regs : Int) (vb vo : Value) (bs : List Bf) (os : List Lop) : Ctr Try.prog 14 [progV regs vb vo] []
    (fun w => Rd w [] vb bs.length (bs.flatMap encB) ∧ Rd w [] vo os.length (os.flatMap encO)) (is2 (.int .i64 (checkM regs bs os).1) (.int .i64 (checkM regs bs os).2)) := by
  refine Ctr.enter Try.func14 Try.ntmps14 rfl rfl (fun w hr => ?_)
  obtain ⟨hr1, hr2⟩ := hr
  have s1 := hr1.1
  have s2 := hr2.1
  unfold progV
  repeat' (first | refine C.seq ?_ | refine C.region ?_ | refine L.nil ?_ | refine D.seq ?_ | refine L.move (k := ?_) | refine L.assign (k := ?_) | refine L.cm (c := ?_) | refine L.fieldAddr (c := ?_) | refine L.load1 0 (c := ?_) | refine L.box (c := fun _ => ?_) | refine L.pickT (k := ?_) | refine L.pickF (k := ?_) | refine L.want (k := ?_) | refine L.pass (k := ?_) | refine C.block ?_ | refine C.ret ?_ | refine D.thenRet ?_ | refine C.skip ?_ | refine L.lenR s1 (c := ?_) | refine L.lenR s2 (c := ?_) | exact D.endsG | (refine L.orB 4 (b2 := ?_) (h1 := fun hb => ?_) (h2 := fun hb => ?_) (k := ?_); rotate_left) | refine C.yesH (h1 := ?_) | refine C.noH (h1 := ?_) | (refine C.condE (h1 := fun hc => ?_) (h2 := fun hc => ?_)))
  · rw [show checkM regs bs os = (0, 3) by unfold checkM rhead; rw [if_pos (by assumption)]]
    (refine D.ret (vs := [_, _]) (RV.tmp rfl (RV.tmp rfl RV.nil)) ?_; intro w' hw; exact Post.mkD 1 hw rfl ⟨rfl, rfl⟩)
  rename_i pb
  have hc1 := hc
  have hsz := Bool.or_eq_false_iff.1 hc1
  have hsz1 := Bool.or_eq_false_iff.1 hsz.1
  have hnb : bs.length ≤ 32 := by have := hsz1.2; simp [cm] at this; omega
  have hno : os.length ≤ 65536 := by have := hsz.2; simp [cm] at this; omega
  have hreg : regs ≤ 64 := by have := hsz1.1; simp [cm] at this; omega
  refine C.loop (α := Nat) (fun i => i ≤ bs.length ∧ (bs.take i).any (fun b => cm .gtr b.size 65536) = false) (fun i => [(1, .pointer (some ⟨pb, 0, none⟩)), (4, .int .i64 i)]) (fun _ => [(pb, ob [.int .i64 regs, vb, vo] 25)]) (fun i => bs.length - i) 0
    (fun a w hs => hs.lessE rfl (lk_cons rfl (lk_cons rfl (fun _ _ h => lk_nil h)))) ⟨Nat.zero_le _, rfl⟩ ?_
  rintro i ⟨hi, hg⟩
  rcases Nat.lt_or_ge i bs.length with hlt | hge
  · have c1 : cm .lss (i : Int) bs.length = true := cm_lo (by omega)
    obtain ⟨b, hb⟩ : ∃ b, bs[i]? = some b := ⟨_, List.getElem?_eq_getElem hlt⟩
    obtain ⟨k0, k1, k2⟩ := b_at hb
    have o1 := hr1.2 (by omega)
    have c2 : ar .add .i64 (i : Int) 1 = ((i + 1 : Nat) : Int) := wrap_nat (by omega)
    repeat' (first | refine C.seq ?_ | refine C.region ?_ | refine L.nil ?_ | refine D.seq ?_ | refine L.move (k := ?_) | refine L.assign (k := ?_) | refine L.cm (c := ?_) | refine L.ar (c := ?_) | refine L.fieldAddr (c := ?_) | refine L.load1 0 (c := ?_) | refine C.yes (h1 := ?_) | refine C.block ?_ | refine D.blkNormal ?_ | refine C.ret ?_ | refine D.thenRet ?_ | refine D.blkRet ?_ | refine C.skip ?_ | refine L.lenR s1 (c := ?_) | refine L.indexR s1 hlt (c := ?_) | refine L.loadF o1 k0 (c := ?_) | refine C.yesH (h1 := ?_) | refine C.noH (h1 := ?_) | (refine C.condE (h1 := fun hc => ?_) (h2 := fun hc => ?_)))
    · rw [show checkM regs bs os = (0, 3) by unfold checkM rhead; rw [if_neg (ne_true_of_eq_false hc1), if_pos (any_at hb (by assumption))]]
      (refine D.ret (vs := [_, _]) (RV.tmp rfl (RV.tmp rfl RV.nil)) ?_; intro w' hw; exact Post.mkD 1 hw rfl ⟨rfl, rfl⟩)
    · refine D.then_ fun a1 w1 hs => ⟨i + 1, ⟨by omega, ?_⟩, by omega, hs.lessE rfl (lk_cons rfl (lk_cons rfl (fun _ _ h => lk_nil h)))⟩
      rw [take_any hb, hg, Bool.false_or]; assumption
  have c1 : cm .lss (i : Int) bs.length = false := cm_lo' (by omega)
  rw [List.take_of_length_le hge] at hg
  repeat' (first | refine C.seq ?_ | refine C.region ?_ | refine L.nil ?_ | refine D.seq ?_ | refine L.move (k := ?_) | refine L.assign (k := ?_) | refine L.cm (c := ?_) | refine L.fieldAddr (c := ?_) | refine L.load1 0 (c := ?_) | refine C.no (h1 := ?_) | refine C.block ?_ | refine C.ret ?_ | refine D.thenRet ?_ | refine C.exit ?_ | refine D.thenExit ?_ | refine D.blkExit ?_ | refine C.skip ?_ | refine L.lenR s1 (c := ?_) | refine C.yesH (h1 := ?_) | refine C.noH (h1 := ?_) | (refine C.condE (h1 := fun hc => ?_) (h2 := fun hc => ?_)))
  · rw [show checkM regs bs os = (0, 2) by unfold checkM rhead; rw [if_neg (ne_true_of_eq_false hc1), if_neg (ne_true_of_eq_false hg), if_pos (by assumption)]]
    (refine D.ret (vs := [_, _]) (RV.tmp rfl (RV.tmp rfl RV.nil)) ?_; intro w' hw; exact Post.mkD 1 hw rfl ⟨rfl, rfl⟩)
  have hc2 := hc
  clear c1
  refine C.loop (α := Nat) (fun i => i ≤ bs.length ∧ (bs.take i).any (fun b => (cm .lss b.size 1 || cm .lss b.kind 1) || cm .gtr b.kind 3) = false) (fun i => [(1, .pointer (some ⟨pb, 0, none⟩)), (5, .int .i64 i)]) (fun _ => [(pb, ob [.int .i64 regs, vb, vo] 25)]) (fun i => bs.length - i) 0
    (fun a w hs => hs.lessE rfl (lk_cons rfl (lk_cons rfl (fun _ _ h => lk_nil h)))) ⟨Nat.zero_le _, rfl⟩ ?_
  rintro j ⟨hj, hg2⟩
  rcases Nat.lt_or_ge j bs.length with hlt | hge2
  · have c1 : cm .lss (j : Int) bs.length = true := cm_lo (by omega)
    obtain ⟨b, hb⟩ : ∃ b, bs[j]? = some b := ⟨_, List.getElem?_eq_getElem hlt⟩
    obtain ⟨k0, k1, k2⟩ := b_at hb
    have o1 := hr1.2 (by omega)
    have c2 : ar .add .i64 (j : Int) 1 = ((j + 1 : Nat) : Int) := wrap_nat (by omega)
    repeat' (first | refine C.seq ?_ | refine C.region ?_ | refine L.nil ?_ | refine D.seq ?_ | refine L.move (k := ?_) | refine L.assign (k := ?_) | refine L.cm (c := ?_) | refine L.ar (c := ?_) | refine L.fieldAddr (c := ?_) | refine L.load1 0 (c := ?_) | refine C.yes (h1 := ?_) | refine L.pickT (k := ?_) | refine L.pickF (k := ?_) | refine L.want (k := ?_) | refine L.pass (k := ?_) | refine C.block ?_ | refine D.blkNormal ?_ | refine C.ret ?_ | refine D.thenRet ?_ | refine D.blkRet ?_ | refine C.skip ?_ | refine L.lenR s1 (c := ?_) | refine L.indexR s1 hlt (c := ?_) | refine L.loadF o1 k0 (c := ?_) | refine L.loadF o1 k1 (c := ?_) | exact D.endsG | (refine L.orB 7 (b2 := ?_) (h1 := fun hb => ?_) (h2 := fun hb => ?_) (k := ?_); rotate_left) | refine C.yesH (h1 := ?_) | refine C.noH (h1 := ?_) | (refine C.condE (h1 := fun hc => ?_) (h2 := fun hc => ?_)))
    · rw [show checkM regs bs os = (0, 2) by unfold checkM rhead; rw [if_neg (ne_true_of_eq_false hc1), if_neg (ne_true_of_eq_false hg), if_neg (ne_true_of_eq_false (by assumption)), if_pos (any_at hb (by assumption))]]
      (refine D.ret (vs := [_, _]) (RV.tmp rfl (RV.tmp rfl RV.nil)) ?_; intro w' hw; exact Post.mkD 1 hw rfl ⟨rfl, rfl⟩)
    · refine D.then_ fun a1 w1 hs => ⟨j + 1, ⟨by omega, ?_⟩, by omega, hs.lessE rfl (lk_cons rfl (lk_cons rfl (fun _ _ h => lk_nil h)))⟩
      rw [take_any hb, hg2, Bool.false_or]; assumption
  have c1 : cm .lss (j : Int) bs.length = false := cm_lo' (by omega)
  rw [List.take_of_length_le hge2] at hg2
  repeat' (first | refine C.seq ?_ | refine C.region ?_ | refine L.nil ?_ | refine D.seq ?_ | refine L.move (k := ?_) | refine L.cm (c := ?_) | refine L.fieldAddr (c := ?_) | refine L.load1 0 (c := ?_) | refine C.no (h1 := ?_) | refine C.exit ?_ | refine D.thenExit ?_ | refine D.blkExit ?_ | refine L.lenR s1 (c := ?_) | refine C.yesH (h1 := ?_) | refine C.noH (h1 := ?_) | (refine C.condE (h1 := fun hc => ?_) (h2 := fun hc => ?_)))
  have hr0 : 0 ≤ regs := by have := hc2; simp [cm] at this; omega
  obtain ⟨n, hn⟩ : ∃ n : Nat, regs = n := ⟨regs.toNat, by omega⟩
  have hn64 : n ≤ 64 := by omega
  refine L.makeZ (m := n) hn (by omega) (by unfold maxLen; omega) (c := fun mb => ?_)
  repeat (first | refine C.seq ?_ | refine C.region ?_ | refine L.nil ?_ | refine D.seq ?_ | refine L.assign (k := ?_) | refine C.block ?_)
  have hb3 : (bs.any fun b => (cm .lss b.size 1 || cm .lss b.kind 1) || cm .gtr b.kind 3) = false := hg2
  have hstart : checkM regs bs os = rrun regs bs os 0 ⟨List.replicate n false, []⟩ := by
    unfold checkM rhead
    rw [if_neg (ne_true_of_eq_false hc1), if_neg (ne_true_of_eq_false hg), if_neg (ne_true_of_eq_false hc2), if_neg (ne_true_of_eq_false hg2), show regs.toNat = n by omega]
  refine C.loop (α := Nat × Ck × OS) (fun x => x.1 ≤ os.length ∧ x.2.1.ok n ∧ osG 1 x.2.1.loops.length (x.2.1.loops.map int) x.2.2 ∧ checkM regs bs os = rrun regs bs (os.drop x.1) x.1 x.2.1)
    (fun x => [(1, .pointer (some ⟨pb, 0, none⟩)), (6, .slice (some ⟨mb, 0, none⟩) n n), (7, osV x.2.1.loops.length x.2.2), (8, .int .i64 x.1)])
    (fun x => (mb, ob (x.2.1.made.map Value.bool) 4) :: (pb, ob [.int .i64 regs, vb, vo] 25) :: osC 3 x.2.2 []) (fun x => os.length - x.1) (0, ⟨List.replicate n false, []⟩, none)
    (fun a w hs => hs.lessE (by simp [osC]) (lk_cons rfl (lk_cons rfl (lk_cons rfl (lk_cons rfl (fun _ _ h => lk_nil h)))))) ⟨Nat.zero_le _, ⟨by simp, by simp, by simp⟩, osG.nil, hstart⟩ ?_
  rintro ⟨i, c, y⟩ ⟨hi, hok, hG, hck⟩
  simp only at hi hok hG hck ⊢
  obtain ⟨hmd, hlp, hlr⟩ := hok
  have hmdl : c.made.length = n := by rw [hmd]; simp
  rcases Nat.lt_or_ge i os.length with hlt | hge
  · have c1 : cm .lss (i : Int) os.length = true := cm_lo (by omega)
    obtain ⟨o, ho⟩ : ∃ o, os[i]? = some o := ⟨_, List.getElem?_eq_getElem hlt⟩
    have hdr : os.drop i = o :: os.drop (i + 1) := by
      rw [List.drop_eq_getElem?_toList_append, ho]; rfl
    rw [hdr] at hck
    obtain ⟨ha0, hal⟩ := flat_at encO_len ho
    have ha := ha0.trans (encO_ex o)
    clear ha0
    have o2 := hr2.2 (by omega)
    have c2 : ar .add .i64 (i : Int) 1 = ((i + 1 : Nat) : Int) := wrap_nat (by omega)
    have F := fields_S regs vb vo bs o
    cases hf : rfields regs bs o with
    | false =>
      rw [hf] at F
      repeat' (first | refine C.seq ?_ | refine C.region ?_ | refine L.nil ?_ | refine D.seq ?_ | refine L.move (k := ?_) | refine L.assign (k := ?_) | refine L.cm (c := ?_) | refine L.fieldAddr (c := ?_) | refine L.load1 1 (c := ?_) | refine L.loadA 0 (c := ?_) | refine L.loadA 2 (c := ?_) | refine L.storeV 0 (c := ?_) | refine L.alloc (c := fun _ => ?_) | refine C.yes (h1 := ?_) | refine L.not (c := ?_) | refine C.block ?_ | refine C.ret ?_ | refine D.thenRet ?_ | refine D.blkRet ?_ | refine C.skip ?_ | refine L.lenR s2 (c := ?_) | refine L.indexR s2 hlt (c := ?_) | refine L.loadOA o2 (i := i * 8) (ho := rfl) (hi := hal) (hcs := ha) (c := ?_) | refine L.callQ F (hpre := fun w hw => hr1.at hw) (k := ?_))
      rw [show checkM regs bs os = (↑i, 2) by rw [hck]; simp [rrun, rstep, hf]]
      (refine D.ret (vs := [_, _]) (RV.tmp rfl (RV.tmp rfl RV.nil)) ?_; intro w' hw; exact Post.mk (is := []) hw List.nodup_nil rfl ⟨rfl, rfl⟩)
    | true =>
    rw [hf] at F
    by_cases hk : o.k = 17
    · have ce : cm .eql o.k 17 = true := cm_yes hk
      rcases List.eq_nil_or_concat c.loops with hl | ⟨ini, r, hl⟩
      · have c3 : cm .eql (c.loops.length : Int) 0 = true := cm_yes (by rw [hl]; rfl)
        repeat' (first | refine C.seq ?_ | refine C.region ?_ | refine L.nil ?_ | refine D.seq ?_ | refine L.move (k := ?_) | refine L.assign (k := ?_) | refine L.cm (c := ?_) | refine L.fieldAddr (c := ?_) | refine L.load1 0 (c := ?_) | refine L.load1 1 (c := ?_) | refine L.loadA 0 (c := ?_) | refine L.loadA 2 (c := ?_) | refine L.storeV 0 (c := ?_) | refine L.alloc (c := fun _ => ?_) | refine C.yes (h1 := ?_) | refine C.no (h1 := ?_) | refine L.not (c := ?_) | refine C.block ?_ | refine C.ret ?_ | refine D.thenRet ?_ | refine D.blkRet ?_ | refine C.skip ?_ | refine L.lenR s2 (c := ?_) | refine L.indexR s2 hlt (c := ?_) | refine L.loadOA o2 (i := i * 8) (ho := rfl) (hi := hal) (hcs := ha) (c := ?_) | refine L.callQ F (hpre := fun w hw => hr1.at hw) (k := ?_) | refine L.lenR hG.sl (c := ?_))
        rw [show checkM regs bs os = (↑i, 9) by rw [hck]; simp [rrun, rstep, hf, ce, hl]]
        (refine D.ret (vs := [_, _]) (RV.tmp rfl (RV.tmp rfl RV.nil)) ?_; intro w' hw; exact Post.mk (is := []) hw List.nodup_nil rfl ⟨rfl, rfl⟩)
      · rw [List.concat_eq_append] at hl
        have hll : c.loops.length = ini.length + 1 := by rw [hl]; simp
        have c3 : cm .eql (c.loops.length : Int) 0 = false := cm_no (by omega)
        have c4 : ar .sub .i64 (c.loops.length : Int) 1 = (ini.length : Int) := by
          show IntKind.i64.wrap _ = _
          rw [wrap_nat (by omega)]; omega
        have hr : 0 ≤ r ∧ r < n := hlr r (by rw [hl]; simp)
        have hlk : c.loops[ini.length]? = some r := by rw [hl]; simp
        have hk1 : r.toNat < (c.made.map Value.bool).length := by rw [List.length_map]; omega
        have ho1 : 0 + r.toNat * 1 = r.toNat := by omega
        have hM1 := fun x z => mset_at mb c.made r.toNat false x z
        repeat' (first | refine C.seq ?_ | refine C.region ?_ | refine L.nil ?_ | refine D.seq ?_ | refine L.move (k := ?_) | refine L.assign (k := ?_) | refine L.cm (c := ?_) | refine L.ar (c := ?_) | refine L.fieldAddr (c := ?_) | refine L.load1 0 (c := ?_) | refine L.load1 1 (c := ?_) | refine L.loadA 0 (c := ?_) | refine L.loadA 2 (c := ?_) | refine L.storeV 0 (c := ?_) | refine L.alloc (c := fun _ => ?_) | refine C.yes (h1 := ?_) | refine C.no (h1 := ?_) | refine L.not (c := ?_) | refine C.block ?_ | refine C.exit ?_ | refine D.thenExit ?_ | refine D.blkExit ?_ | refine C.skip ?_ | refine L.lenR s2 (c := ?_) | refine L.indexR s2 hlt (c := ?_) | refine L.loadOA o2 (i := i * 8) (ho := rfl) (hi := hal) (hcs := ha) (c := ?_) | refine L.callQ F (hpre := fun w hw => hr1.at hw) (k := ?_) | refine L.lenR hG.sl (c := ?_) | refine L.indexR hG.sl (k := ini.length) (by omega) (c := ?_) | refine L.loadU [_, _, _] (i := ini.length) (j := 0) hG rfl (by omega) (by decide) (int_at hlk) (hb := rfl) (ho := rfl) (c := ?_) | refine L.indexP (k := r.toNat) (hi := by omega) (hk := by omega) (c := ?_) | refine L.storeK 1 hk1 ho1 (hM := hM1 _ _) (c := ?_) | refine L.cutU hG (k := ini.length) (by omega) ⟨_, _, rfl, rfl⟩ (c := fun hG' => ?_))
        refine D.then_ fun a1 w1 hs => ⟨(i + 1, ⟨c.made.set r.toNat false, ini⟩, y), ⟨by omega, ⟨by simp [hmd], by simp; omega, fun q hq => hlr q (by rw [hl]; simp [hq])⟩, ?_, ?_⟩, by simp only; omega, hs.lessD 1 ?_ (lk_cons rfl (lk_cons rfl (lk_cons rfl (lk_cons rfl (fun _ _ h => lk_nil h)))))⟩
        · rw [hl] at hG'
          simpa using hG'
        · rw [hck]; simp [rrun, rstep, hf, ce, hl]
        · rfl
    have ce : cm .eql o.k 17 = false := cm_no hk
    repeat' (first | refine C.makeA (h := ?_) | refine C.seq ?_ | refine C.region ?_ | refine L.nil ?_ | refine D.seq ?_ | refine L.move (k := ?_) | refine L.cm (c := ?_) | refine L.fieldAddr (c := ?_) | refine L.load1 0 (c := ?_) | refine L.load1 1 (c := ?_) | refine L.loadA 0 (c := ?_) | refine L.loadA 2 (c := ?_) | refine L.storeV 0 (c := ?_) | refine L.alloc (c := fun _ => ?_) | refine C.yes (h1 := ?_) | refine C.no (h1 := ?_) | refine L.not (c := ?_) | refine C.block ?_ | refine C.skip ?_ | refine L.lenR s2 (c := ?_) | refine L.indexR s2 hlt (c := ?_) | refine L.loadOA o2 (i := i * 8) (ho := rfl) (hi := hal) (hcs := ha) (c := ?_) | refine L.callQ F (hpre := fun w hw => hr1.at hw) (k := ?_))
    rename_i xb
    (refine QP.quiet (v := ?_) (by exact rfl) (by exact rfl) (fun w1 g1 => ?_) ?_; rotate_left); repeat (first | refine L.nil ?_ | refine L.loadA 0 (c := ?_) | exact D.endsQ)
    refine QP.mk0 [] (fun F B => ∃ y1, osG 1 (makesM o).length ((makesM o).map int) y1 ∧ F = [(120, osV (makesM o).length y1)] ∧ B = osC 3 y1 []) (h := fun w1 g1 => ?_) (k := ?_)
    · refine L.callP [] (makes_S o) (k := ?_)
      rintro v B ⟨y1, hG1, rfl, rfl⟩
      rw [hdrop_nil]
      refine L.nil ?_
      exact D.endsP1 (osC 3 y1 []) (hR := ⟨y1, hG1, rfl, rfl⟩)
    (refine QP.quiet (v := ?_) (by exact rfl) (by exact rfl) (fun w1 g1 => ?_) ?_; rotate_left); repeat (first | refine L.nil ?_ | refine L.loadA 0 (c := ?_) | exact D.endsQ)
    refine QP.mk0 [] (fun F B => ∃ y1, osG 1 (takesM o).length ((takesM o).map int) y1 ∧ F = [(122, osV (takesM o).length y1)] ∧ B = osC 3 y1 []) (h := fun w1 g1 => ?_) (k := ?_)
    · refine L.callP [] (takes_S o) (k := ?_)
      rintro v B ⟨y1, hG1, rfl, rfl⟩
      rw [hdrop_nil]
      refine L.nil ?_
      exact D.endsP1 (osC 3 y1 []) (hR := ⟨y1, hG1, rfl, rfl⟩)
    refine QP.mk1 1 [] (fun F B => ∃ y1, osG 1 (makesM o).length ((makesM o).map int) y1 ∧ F = [(10, osV (makesM o).length y1)] ∧ B = osC 3 y1 []) (h := ?_) (k := ?_)
    · rintro F B ⟨y1, hG1, rfl, rfl⟩ w1 g1
      repeat (first | refine L.nil ?_ | refine L.assign (k := ?_))
      exact D.endsP1 (osC 3 y1 []) (hR := ⟨y1, hG1, rfl, rfl⟩)
    refine QP.mk1 3 [] (fun F B => ∃ y1, osG 1 (takesM o).length ((takesM o).map int) y1 ∧ F = [(11, osV (takesM o).length y1)] ∧ B = osC 3 y1 []) (h := ?_) (k := ?_)
    · rintro F B ⟨y1, hG1, rfl, rfl⟩ w1 g1
      repeat (first | refine L.nil ?_ | refine L.assign (k := ?_))
      exact D.endsP1 (osC 3 y1 []) (hR := ⟨y1, hG1, rfl, rfl⟩)
    refine QP.fin2 [none, some [], none, some [], some [1], some [3]] 4 5 (nds := [[], [], [], [], [], []]) (hM := List.Perm.refl _) (k := ?_)
    rintro F1 B1 F2 B2 ⟨y1, hG1, rfl, rfl⟩ ⟨y2, hG2, rfl, rfl⟩
    refine D.seq (C.base (osC 3 y1 []) rfl (fun w1 h1 => ?_))
    have rm1 := hG1.left h1
    have q1 := hr1.back h1
    have q2 := hr2.back h1
    refine C.base (osC 3 y2 []) rfl (fun w2 h2 => ?_)
    have rt := hG2.left h2
    have rm := rm1.back h2
    replace q1 := q1.back h2
    replace q2 := q2.back h2
    clear rm1
    have hml := makes_len o
    have htl := takes_len o
    have hdi : cm .eql o.k 16 = true → o.d = (o.d.toNat : Int) ∧ o.d.toNat < n := fun h => by
      have h16 : o.k = 16 := by simpa [cm] using h
      have := rf_makes hf o.d (by rw [makes_loop h16]; simp)
      omega
    have hin : ∀ q : Int, 0 ≤ q ∧ q < n → (c.made.map Value.bool)[q.toNat]? = some (.bool (mdAt c.made q)) := fun q hq => by
      obtain ⟨b, hb⟩ : ∃ b, c.made[q.toNat]? = some b := ⟨_, List.getElem?_eq_getElem (by omega)⟩
      rw [List.getElem?_map, hb, mdAt_get hb]; rfl
    repeat' (first | refine C.seq ?_ | refine C.region ?_ | refine L.nil ?_ | refine D.seq ?_ | refine L.assign (k := ?_) | refine C.block ?_)
    refine C.loop (α := Nat) (fun j => j ≤ (makesM o).length ∧ ((makesM o).take j).any (fun r => c.loops.contains r) = false) (fun j => [(1, .pointer (some ⟨pb, 0, none⟩)), (6, .slice (some ⟨mb, 0, none⟩) n n), (7, osV c.loops.length y), (8, .int .i64 i), (9, .pointer (some ⟨xb, 0, none⟩)), (10, osV (makesM o).length y1), (11, osV (takesM o).length y2), (12, .int .i64 j)]) (fun _ => (xb, ob [.int .i64 o.k, .int .i64 o.d, .int .i64 o.e, .int .i64 o.a, .int .i64 o.b, .int .i64 o.c, .int .i64 o.buf, .int .u64 o.imm] 39) :: (mb, ob ((c.made).map Value.bool) 4) :: (pb, ob [.int .i64 regs, vb, vo] 25) :: osC 3 y []) (fun j => (makesM o).length - j) 0
      (fun a w hs => hs.lessE (by rfl) (lk_cons rfl (lk_cons rfl (lk_cons rfl (lk_cons rfl (lk_cons rfl (lk_cons rfl (lk_cons rfl (lk_cons rfl (fun _ _ h => lk_nil h)))))))))) ⟨Nat.zero_le _, rfl⟩ ?_
    rintro j ⟨hj, hgm⟩
    rcases Nat.lt_or_ge j (makesM o).length with hlj | hgj
    · have c3 : cm .lss (j : Int) (makesM o).length = true := cm_lo (by omega)
      have c4 : ar .add .i64 (j : Int) 1 = ((j + 1 : Nat) : Int) := wrap_nat (by omega)
      obtain ⟨q, hq⟩ : ∃ q, (makesM o)[j]? = some q := ⟨_, List.getElem?_eq_getElem hlj⟩
      have k1 := int_at hq
      have o1 := rm.2 (by omega)
      have I := in_S (osV c.loops.length y) c.loops q (by omega)
      cases hc3 : c.loops.contains q with
      | true =>
        rw [hc3] at I
        repeat (first | refine C.seq ?_ | refine C.region ?_ | refine L.nil ?_ | refine D.seq ?_ | refine L.move (k := ?_) | refine L.assign (k := ?_) | refine L.cm (c := ?_) | refine C.yes (h1 := ?_) | refine C.block ?_ | refine C.ret ?_ | refine D.thenRet ?_ | refine D.blkRet ?_ | refine C.skip ?_ | refine L.lenR rm.1 (c := ?_) | refine L.indexR rm.1 hlj (c := ?_) | refine L.loadF o1 k1 (c := ?_) | refine L.callQ I (hpre := fun w hw => hG.rd (L1 := [_, _, _]) (L2 := []) hw) (k := ?_))
        have hany : (makesM o).any (fun r => c.loops.contains r) = true := any_at hq hc3
        rw [show checkM regs bs os = (↑i, 9) by rw [hck]; simp only [rrun, rstep, hf, ce, hany]; rfl]
        (refine D.ret (vs := [_, _]) (RV.tmp rfl (RV.tmp rfl RV.nil)) ?_; intro w' hw; exact Post.mk (is := []) (h1.back (h2.back hw)) List.nodup_nil rfl ⟨rfl, rfl⟩)
      | false =>
        rw [hc3] at I
        repeat (first | refine C.seq ?_ | refine C.region ?_ | refine L.nil ?_ | refine D.seq ?_ | refine L.move (k := ?_) | refine L.assign (k := ?_) | refine L.cm (c := ?_) | refine L.ar (c := ?_) | refine C.yes (h1 := ?_) | refine C.no (h1 := ?_) | refine C.block ?_ | refine D.blkNormal ?_ | refine C.skip ?_ | refine L.lenR rm.1 (c := ?_) | refine L.indexR rm.1 hlj (c := ?_) | refine L.loadF o1 k1 (c := ?_) | refine L.callQ I (hpre := fun w hw => hG.rd (L1 := [_, _, _]) (L2 := []) hw) (k := ?_))
        refine D.then_ fun a1 w1 hs => ⟨j + 1, ⟨by omega, ?_⟩, by omega, hs.lessE (by rfl) (lk_cons rfl (lk_cons rfl (lk_cons rfl (lk_cons rfl (lk_cons rfl (lk_cons rfl (lk_cons rfl (lk_cons rfl (fun _ _ h => lk_nil h)))))))))⟩
        rw [take_any hq, hgm, Bool.false_or]; exact hc3
    have c3 : cm .lss (j : Int) (makesM o).length = false := cm_lo' (by omega)
    rw [List.take_of_length_le hgj] at hgm
    have hz : ∀ q : Int, 0 + q.toNat * 1 = q.toNat := fun q => by omega
    repeat' (first | refine C.seq ?_ | refine C.region ?_ | refine L.nil ?_ | refine D.seq ?_ | refine L.move (k := ?_) | refine L.assign (k := ?_) | refine L.cm (c := ?_) | refine L.fieldAddr (c := ?_) | refine L.load1 0 (c := ?_) | refine C.no (h1 := ?_) | refine L.pickT (k := ?_) | refine L.pickF (k := ?_) | refine L.want (k := ?_) | refine L.pass (k := ?_) | refine C.block ?_ | refine C.ret ?_ | refine D.thenRet ?_ | refine D.blkRet ?_ | refine C.exit ?_ | refine D.thenExit ?_ | refine D.blkExit ?_ | refine C.skip ?_ | refine L.lenR rm.1 (c := ?_) | refine L.lenR hG.sl (c := ?_) | refine L.indexP (k := o.d.toNat) (hi := (hdi (by assumption)).1) (hk := (hdi (by assumption)).2) (c := ?_) | refine L.loadK 1 (hin o.d (by have := hdi (by assumption); omega)) (hz o.d) (c := ?_) | exact D.endsG | (refine L.andB 3 (b2 := ?_) (h1 := fun hb => ?_) (h2 := fun hb => ?_) (k := ?_); rotate_left) | (refine L.andB 5 (b2 := ?_) (h1 := fun hb => ?_) (h2 := fun hb => ?_) (k := ?_); rotate_left) | refine C.yesH (h1 := ?_) | refine C.noH (h1 := ?_) | (refine C.condE (h1 := fun hc => ?_) (h2 := fun hc => ?_)))
    · rw [show checkM regs bs os = (↑i, 9) by rw [hck]; simp only [rrun, rstep, hf, ce, hgm, hc]; rfl]
      (refine D.ret (vs := [_, _]) (RV.tmp rfl (RV.tmp rfl RV.nil)) ?_; intro w' hw; exact Post.mk (is := []) (h1.back (h2.back hw)) List.nodup_nil rfl ⟨rfl, rfl⟩)
    · rename_i hcA
      rw [show checkM regs bs os = (↑i, 10) by rw [hck]; simp only [rrun, rstep, hf, ce, hgm, hcA, hc]; rfl]
      (refine D.ret (vs := [_, _]) (RV.tmp rfl (RV.tmp rfl RV.nil)) ?_; intro w' hw; exact Post.mk (is := []) (h1.back (h2.back hw)) List.nodup_nil rfl ⟨rfl, rfl⟩)
    rename_i hcA
    have hcB := hc
    refine C.loop (α := Nat) (fun j => j ≤ (takesM o).length ∧ ((takesM o).take j).any (fun r => !mdAt c.made r) = false) (fun j => [(1, .pointer (some ⟨pb, 0, none⟩)), (6, .slice (some ⟨mb, 0, none⟩) n n), (7, osV c.loops.length y), (8, .int .i64 i), (9, .pointer (some ⟨xb, 0, none⟩)), (10, osV (makesM o).length y1), (11, osV (takesM o).length y2), (13, .int .i64 j)]) (fun _ => (xb, ob [.int .i64 o.k, .int .i64 o.d, .int .i64 o.e, .int .i64 o.a, .int .i64 o.b, .int .i64 o.c, .int .i64 o.buf, .int .u64 o.imm] 39) :: (mb, ob ((c.made).map Value.bool) 4) :: (pb, ob [.int .i64 regs, vb, vo] 25) :: osC 3 y []) (fun j => (takesM o).length - j) 0
      (fun a w hs => hs.lessE (by rfl) (lk_cons rfl (lk_cons rfl (lk_cons rfl (lk_cons rfl (lk_cons rfl (lk_cons rfl (lk_cons rfl (lk_cons rfl (fun _ _ h => lk_nil h)))))))))) ⟨Nat.zero_le _, rfl⟩ ?_
    rintro l ⟨hl, hgt⟩
    rcases Nat.lt_or_ge l (takesM o).length with hll | hgl
    · have c3 : cm .lss (l : Int) (takesM o).length = true := cm_lo (by omega)
      have c4 : ar .add .i64 (l : Int) 1 = ((l + 1 : Nat) : Int) := wrap_nat (by omega)
      obtain ⟨q, hq⟩ : ∃ q, (takesM o)[l]? = some q := ⟨_, List.getElem?_eq_getElem hll⟩
      have k1 := int_at hq
      have o1 := rt.2 (by omega)
      have hqr := rf_takes hf q (List.mem_of_getElem? hq)
      rw [hn] at hqr
      have hqi : q = (q.toNat : Int) := by omega
      have hqk : q.toNat < n := by omega
      have hqm := hin q hqr
      repeat' (first | refine C.seq ?_ | refine C.region ?_ | refine L.nil ?_ | refine D.seq ?_ | refine L.move (k := ?_) | refine L.assign (k := ?_) | refine L.cm (c := ?_) | refine L.ar (c := ?_) | refine C.yes (h1 := ?_) | refine L.not (c := ?_) | refine C.block ?_ | refine D.blkNormal ?_ | refine C.ret ?_ | refine D.thenRet ?_ | refine D.blkRet ?_ | refine C.skip ?_ | refine L.lenR rt.1 (c := ?_) | refine L.indexR rt.1 hll (c := ?_) | refine L.loadF o1 k1 (c := ?_) | refine L.indexP (k := q.toNat) (hi := hqi) (hk := hqk) (c := ?_) | refine L.loadK 1 hqm (hz q) (c := ?_) | refine C.yesH (h1 := ?_) | refine C.noH (h1 := ?_) | (refine C.condE (h1 := fun hc => ?_) (h2 := fun hc => ?_)))
      · have hany : (takesM o).any (fun r => !mdAt c.made r) = true := any_at hq hc
        rw [show checkM regs bs os = (↑i, 5) by rw [hck]; simp only [rrun, rstep, hf, ce, hgm, hcA, hcB, hany]; rfl]
        (refine D.ret (vs := [_, _]) (RV.tmp rfl (RV.tmp rfl RV.nil)) ?_; intro w' hw; exact Post.mk (is := []) (h1.back (h2.back hw)) List.nodup_nil rfl ⟨rfl, rfl⟩)
      · refine D.then_ fun a1 w1 hs => ⟨l + 1, ⟨by omega, ?_⟩, by omega, hs.lessE (by rfl) (lk_cons rfl (lk_cons rfl (lk_cons rfl (lk_cons rfl (lk_cons rfl (lk_cons rfl (lk_cons rfl (lk_cons rfl (fun _ _ h => lk_nil h)))))))))⟩
        rw [take_any hq, hgt, Bool.false_or]; exact hc
    have c3 : cm .lss (l : Int) (takesM o).length = false := cm_lo' (by omega)
    rw [List.take_of_length_le hgl] at hgt
    repeat' (first | refine C.seq ?_ | refine C.region ?_ | refine L.nil ?_ | refine D.seq ?_ | refine L.move (k := ?_) | refine L.assign (k := ?_) | refine L.cm (c := ?_) | refine C.no (h1 := ?_) | refine C.block ?_ | refine C.exit ?_ | refine D.thenExit ?_ | refine D.blkExit ?_ | refine L.lenR rt.1 (c := ?_))
    refine C.loop (α := Nat) (fun j => j ≤ (makesM o).length) (fun j => [(1, .pointer (some ⟨pb, 0, none⟩)), (6, .slice (some ⟨mb, 0, none⟩) n n), (7, osV c.loops.length y), (8, .int .i64 i), (9, .pointer (some ⟨xb, 0, none⟩)), (10, osV (makesM o).length y1), (11, osV (takesM o).length y2), (14, .int .i64 j)]) (fun j => (xb, ob [.int .i64 o.k, .int .i64 o.d, .int .i64 o.e, .int .i64 o.a, .int .i64 o.b, .int .i64 o.c, .int .i64 o.buf, .int .u64 o.imm] 39) :: (mb, ob ((setAll c.made ((makesM o).take j)).map Value.bool) 4) :: (pb, ob [.int .i64 regs, vb, vo] 25) :: osC 3 y []) (fun j => (makesM o).length - j) 0
      (fun a w hs => hs.lessE (by rfl) (lk_cons rfl (lk_cons rfl (lk_cons rfl (lk_cons rfl (lk_cons rfl (lk_cons rfl (lk_cons rfl (lk_cons rfl (fun _ _ h => lk_nil h)))))))))) (Nat.zero_le _) ?_
    intro l hl
    rcases Nat.lt_or_ge l (makesM o).length with hll | hgl
    · have c3 : cm .lss (l : Int) (makesM o).length = true := cm_lo (by omega)
      have c4 : ar .add .i64 (l : Int) 1 = ((l + 1 : Nat) : Int) := wrap_nat (by omega)
      obtain ⟨q, hq⟩ : ∃ q, (makesM o)[l]? = some q := ⟨_, List.getElem?_eq_getElem hll⟩
      have k1 := int_at hq
      have o1 := rm.2 (by omega)
      have hqr := rf_makes hf q (List.mem_of_getElem? hq)
      rw [hn] at hqr
      have hqi : q = (q.toNat : Int) := by omega
      have hqk : q.toNat < n := by omega
      have hk1 : q.toNat < ((setAll c.made ((makesM o).take l)).map Value.bool).length := by rw [List.length_map, setAll_len]; omega
      have hM1 := fun x z => mset_at mb (setAll c.made ((makesM o).take l)) q.toNat true x z
      repeat' (first | refine C.seq ?_ | refine C.region ?_ | refine L.nil ?_ | refine D.seq ?_ | refine L.move (k := ?_) | refine L.assign (k := ?_) | refine L.cm (c := ?_) | refine L.ar (c := ?_) | refine C.yes (h1 := ?_) | refine C.block ?_ | refine D.blkNormal ?_ | refine C.skip ?_ | refine L.lenR rm.1 (c := ?_) | refine L.indexR rm.1 hll (c := ?_) | refine L.loadF o1 k1 (c := ?_) | refine L.indexP (k := q.toNat) (hi := hqi) (hk := hqk) (c := ?_) | refine L.storeK 1 hk1 (hz q) (hM := hM1 _ _) (c := ?_))
      refine D.then_ fun a1 w1 hs => ⟨l + 1, by omega, by omega, hs.lessE ?_ (lk_cons rfl (lk_cons rfl (lk_cons rfl (lk_cons rfl (lk_cons rfl (lk_cons rfl (lk_cons rfl (lk_cons rfl (fun _ _ h => lk_nil h)))))))))⟩
      rw [setAll_take hq]
    have c3 : cm .lss (l : Int) (makesM o).length = false := cm_lo' (by omega)
    rw [List.take_of_length_le hgl]
    have hst : rstep regs bs c o = .inr ⟨setAll c.made (makesM o), if cm .eql o.k 16 then c.loops ++ [o.d] else c.loops⟩ := by
      simp only [rstep, hf, ce, hgm, hcA, hcB, hgt]; rfl
    have hck2 : checkM regs bs os = rrun regs bs (os.drop (i + 1)) (i + 1) ⟨setAll c.made (makesM o), if cm .eql o.k 16 then c.loops ++ [o.d] else c.loops⟩ := by
      rw [hck]; simp only [rrun, hst]
    repeat' (first | refine C.seq ?_ | refine C.region ?_ | refine L.nil ?_ | refine D.seq ?_ | refine L.move (k := ?_) | refine L.assign (k := ?_) | refine L.cm (c := ?_) | refine L.ar (c := ?_) | refine L.fieldAddr (c := ?_) | refine L.load1 0 (c := ?_) | refine C.no (h1 := ?_) | refine D.blkNormal ?_ | refine C.exit ?_ | refine D.thenExit ?_ | refine D.blkExit ?_ | refine C.skip ?_ | refine D.seqR (h := ?_) | refine L.buildS (c := fun _ => ?_) | refine L.lenR rm.1 (c := ?_) | refine C.yesH (h1 := ?_) | refine C.noH (h1 := ?_) | (refine C.condE (h1 := fun hc => ?_) (h2 := fun hc => ?_)))
    · refine L.appendU [_, _, _, _] (u := .slice (some ⟨_, 0, none⟩) 1 1) (k := 1) (news := [int o.d]) hG rfl (fun w hw => Rd.own (hw.holds _ List.mem_cons_self) (by simp) (Nat.le_refl _) 1 rfl) rfl (by intro u hu; simp at hu; subst hu; rfl) (by unfold maxLen; omega) (by omega) (c := fun y' hG' _ => ?_)
      repeat' (first | refine C.region ?_ | refine L.nil ?_ | refine L.move (k := ?_) | refine L.assign (k := ?_) | refine L.ar (c := ?_) | refine D.blkNormal ?_ | refine D.seqR (h := ?_))
      refine D.then_ fun a1 w3 hs => ⟨(i + 1, ⟨setAll c.made (makesM o), c.loops ++ [o.d]⟩, y'), ⟨by omega, ⟨by rw [setAll_len, hmd], ?_, ?_⟩, ?_, ?_⟩, by simp only; omega, ?_⟩
      · simp only [List.length_append, List.length_singleton]
        have : ¬ ((c.loops.length : Int) = 8) := fun h8 => by rw [show cm .eql o.k 16 = true from hc, cm_yes h8] at hcB; cases hcB
        omega
      · intro q hq
        rcases List.mem_append.1 hq with hq | hq
        · exact hlr q hq
        · rw [List.mem_singleton] at hq; rw [hq]; have := hdi hc; omega
      · simpa using hG'
      · rw [hck2, hc]; rfl
      · have hs' : Sat { w0 := w, A := keys [], n := 200 } _ _ a1 w3 := ⟨h1.back (h2.back hs.at_), hs.defers, hs.size, hs.env⟩
        refine hs'.lessD 2 rfl ?_
        simp only [List.length_append, List.length_singleton]
        exact (lk_cons rfl (lk_cons rfl (lk_cons rfl (lk_cons rfl (fun _ _ h => lk_nil h)))))
    · refine D.then_ fun a1 w3 hs => ⟨(i + 1, ⟨setAll c.made (makesM o), c.loops⟩, y), ⟨by omega, ⟨by rw [setAll_len, hmd], hlp, hlr⟩, hG, ?_⟩, by simp only; omega, ?_⟩
      · rw [hck2, hc]; rfl
      · have hs' : Sat { w0 := w, A := keys [], n := 200 } _ _ a1 w3 := ⟨h1.back (h2.back hs.at_), hs.defers, hs.size, hs.env⟩
        exact hs'.lessD 1 rfl (lk_cons rfl (lk_cons rfl (lk_cons rfl (lk_cons rfl (fun _ _ h => lk_nil h)))))
  have hil : i = os.length := by omega
  subst hil
  rw [List.drop_length] at hck
  have c1 : cm .lss (os.length : Int) os.length = false := cm_lo' (by omega)
  rcases Nat.eq_zero_or_pos c.loops.length with hl0 | hl0
  · have c2 : cm .gtr (c.loops.length : Int) 0 = false := cm_gt' (by omega)
    repeat' (first | refine C.seq ?_ | refine C.region ?_ | refine L.nil ?_ | refine D.seq ?_ | refine L.move (k := ?_) | refine L.assign (k := ?_) | refine L.cm (c := ?_) | refine L.fieldAddr (c := ?_) | refine L.load1 1 (c := ?_) | refine C.no (h1 := ?_) | refine C.ret ?_ | refine C.exit ?_ | refine D.thenExit ?_ | refine D.blkExit ?_ | refine C.skip ?_ | refine D.seqR (h := ?_) | refine L.lenR s2 (c := ?_) | refine L.lenR hG.sl (c := ?_))
    rw [show checkM regs bs os = (↑os.length, 0) by rw [hck]; simp [rrun, List.length_eq_zero_iff.1 hl0]]
    (refine D.ret (vs := [_, _]) (RV.tmp rfl (RV.tmp rfl RV.nil)) ?_; intro w' hw; exact Post.mk (is := []) hw List.nodup_nil rfl ⟨rfl, rfl⟩)
  · have c2 : cm .gtr (c.loops.length : Int) 0 = true := cm_gt (by omega)
    repeat' (first | refine C.seq ?_ | refine C.region ?_ | refine L.nil ?_ | refine D.seq ?_ | refine L.move (k := ?_) | refine L.assign (k := ?_) | refine L.cm (c := ?_) | refine L.fieldAddr (c := ?_) | refine L.load1 1 (c := ?_) | refine C.yes (h1 := ?_) | refine C.no (h1 := ?_) | refine C.ret ?_ | refine D.thenRet ?_ | refine C.exit ?_ | refine D.thenExit ?_ | refine D.blkExit ?_ | refine D.seqR (h := ?_) | refine L.lenR s2 (c := ?_) | refine L.lenR hG.sl (c := ?_))
    rw [show checkM regs bs os = (↑os.length, 9) by rw [hck]; simp [rrun, show c.loops ≠ [] from fun h => by rw [h] at hl0; cases hl0]]
    (refine D.ret (vs := [_, _]) (RV.tmp rfl (RV.tmp rfl RV.nil)) ?_; intro w' hw; exact Post.mk (is := []) hw List.nodup_nil rfl ⟨rfl, rfl⟩)
end Go.Proofs.Ytkjlgapkcdcmgaa
