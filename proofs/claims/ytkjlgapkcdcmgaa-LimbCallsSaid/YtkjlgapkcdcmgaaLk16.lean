/- secrecy.Check. -/
import Derived.Test.YtkjlgapkcdcmgaaLk15
set_option linter.unusedVariables false
set_option linter.unusedSimpArgs false
namespace Go.Proofs.Ytkjlgapkcdcmgaa
open Go Go.RowKit SL
attribute [local irreducible] SL.L SL.C SL.D SL.N SL.H SL.QL SL.QW SL.QP

theorem enc_at {α : Type} {enc : α → Value} {xs : List α} {i : Nat} {x : α} (h : xs[i]? = some x) : (xs.map enc)[i * 1 + 0]? = some (enc x) := by
  rw [Nat.mul_one, Nat.add_zero, List.getElem?_map, h]; rfl

set_option maxHeartbeats 1000000 in
theorem indexR_S (f : Nat) [Fun Try.prog f] (cs : List Value) (enc : Nat → Value) (p : Nat → Bool) (v : Value) (xs : List Nat) (K : World → Prop) (hK : ∀ w w', K w → At w [] [] w' → K w') (spec : ∀ x ∈ xs, Ctr Try.prog f ([enc x] ++ cs) [] K (is (.bool (p x)) [])) (hb : xs.length ≤ 1000000) :
    Ctr Try.prog 80 [v, .func (.func f) #[] cs.toArray] [] (fun w => Rd w [] v xs.length (xs.map enc) ∧ K w) (is (.int .i64 (idxI p xs)) []) := by
  refine Ctr.enter Try.func80 Try.ntmps80 rfl rfl (fun w hr => ?_)
  have s1 := hr.1.1
  repeat (first | refine C.seq ?_ | refine C.region ?_ | refine L.nil ?_ | refine D.seq ?_ | refine L.move (k := ?_) | refine L.assign (k := ?_) | refine C.block ?_ | refine L.lenR s1 (c := ?_))
  refine C.loop (α := Nat) (fun i => i ≤ xs.length ∧ (xs.take i).any p = false) (fun i => [(0, v), (1, .func (.func f) #[] cs.toArray), (7, .int .i64 xs.length), (8, .int .i64 i)]) (fun _ => []) (fun i => xs.length - i) 0
    (fun a w hs => hs.lessE rfl (lk_cons rfl (lk_cons rfl (lk_cons rfl (lk_cons rfl (fun _ _ h => lk_nil h)))))) ⟨Nat.zero_le _, rfl⟩ ?_
  rintro i ⟨hi, ht⟩
  rcases Nat.lt_or_ge i xs.length with hlt | hge
  · have c1 : cm .lss (i : Int) xs.length = true := cm_lo (by omega)
    obtain ⟨x, hx⟩ : ∃ x, xs[i]? = some x := ⟨_, List.getElem?_eq_getElem hlt⟩
    have o1 := hr.1.2 (by omega)
    have c2 : ar .add .i64 (i : Int) 1 = ((i + 1 : Nat) : Int) := wrap_nat (by omega)
    have sp := spec x (List.mem_of_getElem? hx)
    repeat' (first | refine C.seq ?_ | refine C.region ?_ | refine L.nil ?_ | refine D.seq ?_ | refine L.move (k := ?_) | refine L.assign (k := ?_) | refine L.cm (c := ?_) | refine C.yes (h1 := ?_) | refine C.block ?_ | refine C.skip ?_ | refine L.lenR s1 (c := ?_) | refine L.indexR s1 hlt (c := ?_) | refine L.loadF o1 (enc_at hx) (c := ?_) | refine L.call (fs := []) (cs := cs) (A := []) (f := f) [] (by exact rfl) (by exact rfl) (by exact rfl) (by exact rfl) (by exact List.nodup_nil) sp (fun w1 hw1 => hK _ _ hr.2 hw1) (fun v' B hvB => ?_))
    obtain ⟨rfl, rfl⟩ := hvB
    cases hp : p x with
    | true =>
      repeat' (first | refine C.seq ?_ | refine C.region ?_ | refine L.nil ?_ | refine D.seq ?_ | refine L.move (k := ?_) | refine L.assign (k := ?_) | refine C.yes (h1 := ?_) | refine C.ret ?_ | refine D.thenRet ?_ | refine D.blkRet ?_)
      rw [idxI_at hx hp ht]
      (refine D.ret (vs := [_]) (RV.tmp rfl RV.nil) ?_; intro w' hw; exact Post.mkD 0 hw rfl ⟨rfl, rfl⟩)
    | false =>
      repeat' (first | refine C.region ?_ | refine L.nil ?_ | refine D.seq ?_ | refine L.move (k := ?_) | refine L.ar (c := ?_) | refine C.no (h1 := ?_) | refine D.blkNormal ?_ | refine C.skip ?_)
      refine D.then_ fun a1 w1 hs => ⟨i + 1, ⟨by omega, ?_⟩, by omega, hs.lessE rfl (lk_cons rfl (lk_cons rfl (lk_cons rfl (lk_cons rfl (fun _ _ h => lk_nil h)))))⟩
      rw [take_any hx, ht, Bool.false_or]; exact hp
  · have c1 : cm .lss (i : Int) xs.length = false := cm_lo' (by omega)
    repeat (first | refine C.seq ?_ | refine C.region ?_ | refine L.nil ?_ | refine D.seq ?_ | refine L.assign (k := ?_) | refine L.cm (c := ?_) | refine C.no (h1 := ?_) | refine C.ret ?_ | refine C.exit ?_ | refine D.thenExit ?_ | refine D.blkExit ?_)
    rw [List.take_of_length_le hge] at ht
    rw [idxI_no ht]
    (refine D.ret (vs := [_]) (RV.tmp rfl RV.nil) ?_; intro w' hw; exact Post.mkD 0 hw rfl ⟨rfl, rfl⟩)
set_option maxHeartbeats 1000000 in
theorem containsR_S (f : Nat) [Fun Try.prog f] (cs : List Value) (enc : Nat → Value) (p : Nat → Bool) (v : Value) (xs : List Nat) (K : World → Prop) (hK : ∀ w w', K w → At w [] [] w' → K w') (spec : ∀ x ∈ xs, Ctr Try.prog f ([enc x] ++ cs) [] K (is (.bool (p x)) [])) (hb : xs.length ≤ 1000000) :
    Ctr Try.prog 57 [v, .func (.func f) #[] cs.toArray] [] (fun w => Rd w [] v xs.length (xs.map enc) ∧ K w) (is (.bool (xs.any p)) []) := by
  refine Ctr.enter Try.func57 Try.ntmps57 rfl rfl (fun w hr => ?_)
  rw [← idxI_any]
  repeat (first | refine C.seq ?_ | refine C.region ?_ | refine L.nil ?_ | refine D.seq ?_ | refine L.move (k := ?_) | refine L.assign (k := ?_) | refine L.cm (c := ?_) | refine C.ret ?_ | refine L.callQ (indexR_S f cs enc p v xs K hK spec hb) (hpre := fun w1 hw1 => ⟨hr.1.at hw1, hK _ _ hr.2 hw1⟩) (k := ?_))
  (refine D.ret (vs := [_]) (RV.tmp rfl RV.nil) ?_; intro w' hw; exact Post.mkD 0 hw rfl ⟨rfl, rfl⟩)

theorem rules_S : Ctr Try.prog 56 [] [] tt (fun v B => ∃ rb mb, v = .slice (some ⟨rb, 0, none⟩) 3 3 ∧ B = [(rb, ob [ruleV mb 0, ruleV mb 1, ruleV mb 2] 83), (mb, ob [.func (.func 76) #[] #[]] 109)]) := by
  refine Ctr.enter Try.func56 Try.ntmps56 rfl rfl (fun w _ => ?_)
  repeat' (first | refine C.seq ?_ | refine C.region ?_ | refine L.nil ?_ | refine D.seq ?_ | refine L.assign (k := ?_) | refine L.storeV 0 (c := ?_) | refine L.alloc (c := fun _ => ?_) | refine C.ret ?_ | refine L.makeFunc (k := ?_) | refine L.buildS (c := fun _ => ?_))
  refine D.ret (vs := [_]) (RV.tmp rfl RV.nil) ?_
  intro w' hw
  exact Post.mkD 0 hw rfl ⟨_, _, rfl, rfl⟩
theorem mem0 {α : Type} {a : α} {l : List α} : a ∈ a :: l := List.mem_cons_self
theorem mem1 {α : Type} {a b : α} {l : List α} : b ∈ a :: b :: l := List.mem_cons_of_mem _ mem0
theorem mem2 {α : Type} {a b c : α} {l : List α} : c ∈ a :: b :: c :: l := List.mem_cons_of_mem _ mem1
theorem mem3 {α : Type} {a b c d : α} {l : List α} : d ∈ a :: b :: c :: d :: l := List.mem_cons_of_mem _ mem2
theorem mem4 {α : Type} {a b c d e : α} {l : List α} : e ∈ a :: b :: c :: d :: e :: l := List.mem_cons_of_mem _ mem3
def badM (bs : List Bf) (m : Nat) (o : Lop) : Bool := [0, 1, 2].any (ruleM bs m o)
def secRun (bs : List Bf) (m : Nat) : List Lop → Nat → Int × Int
  | [], i => (i, 0)
  | o :: os, i => if badM bs m o then (i, 12) else secRun bs m os (i + 1)
def CheckIs (regs : Int) (bs : List Bf) (os : List Lop) (x : Int × Int) : Prop := if (checkM regs bs os).2 = 0 then ∃ m : Nat, Least bs os m ∧ m < 18446744073709551616 ∧ x = secRun bs m os 0 else x = checkM regs bs os
set_option maxHeartbeats 8000000 in
theorem scheck_S (regs : Int) (vb vo : Value) (bs : List Bf) (os : List Lop) (hbl : bs.length ≤ maxLen) : Ctr Try.prog 19 [progV regs vb vo] []
    (fun w => Rd w [] vb bs.length (bs.flatMap encB) ∧ Rd w [] vo os.length (os.flatMap encO)) (fun v B => ∃ x, CheckIs regs bs os x ∧ v = shut [.int .i64 x.1, .int .i64 x.2] ∧ B = []) := by
  refine Ctr.enter Try.func19 Try.ntmps19 rfl rfl (fun w hr => ?_)
  have s2 := hr.2.1
  have K := check_S regs vb vo bs os hbl
  unfold progV
  repeat' (first | refine C.seq ?_ | refine C.region ?_ | refine L.nil ?_ | refine D.seq ?_ | refine L.assign (k := ?_) | refine L.loadA 0 (c := ?_) | refine L.box (c := fun _ => ?_))
  rename_i pb
  refine L.callP [] K (hpre := fun w hw => ⟨hr.1.at hw, hr.2.at hw⟩) (k := ?_)
  rintro v B ⟨rfl, rfl⟩
  rw [hdrop_nil]
  unfold shut
  rw [List.nil_append]
  by_cases he : (checkM regs bs os).2 = 0
  · have c1 : cm .neq (checkM regs bs os).2 0 = false := cm_ne' he
    obtain ⟨ha, h0, h64, hb32, hno, hh, hf⟩ := check_ok he
    have hok : ∀ o ∈ os, OpOk regs bs o := fun o hm => opOk h0 (hf o hm)
    have S := secret_S regs vb vo bs os h64 (by omega) hok
    repeat' (first | refine C.seq ?_ | refine C.region ?_ | refine L.nil ?_ | refine D.seq ?_ | refine L.move (k := ?_) | refine L.assign (k := ?_) | refine L.cm (c := ?_) | refine L.loadA 0 (c := ?_) | refine L.extract (c := ?_) | refine C.no (h1 := ?_) | refine C.skip ?_)
    refine L.callP [] S (hpre := fun w hw => ⟨hr.1.at hw, hr.2.at hw⟩) (k := ?_)
    rintro v B ⟨m, hl, hm, rfl, rfl⟩
    rw [hdrop_nil, List.nil_append]
    refine L.callP [] rules_S (k := ?_)
    rintro v B ⟨rb, mb, rfl, rfl⟩
    rw [hdrop_nil]
    simp only [List.cons_append, List.nil_append]
    repeat' (first | refine C.seq ?_ | refine C.region ?_ | refine L.nil ?_ | refine D.seq ?_ | refine L.move (k := ?_) | refine L.assign (k := ?_) | refine L.fieldAddr (c := ?_) | refine L.load1 3 (c := ?_) | refine L.storeV 0 (c := ?_) | refine L.alloc (c := fun _ => ?_) | refine C.block ?_ | refine D.seqR (h := ?_) | refine L.lenR s2 (c := ?_))
    rename_i qb
    refine C.loop (α := Nat) (fun i => i ≤ os.length ∧ secRun bs m os 0 = secRun bs m (os.drop i) i) (fun i => [(1, .pointer (some ⟨pb, 0, none⟩)), (6, .pointer (some ⟨qb, 0, none⟩)), (7, .slice (some ⟨rb, 0, none⟩) 3 3), (23, vo), (24, .int .i64 os.length), (25, .int .i64 i)])
      (fun _ => [(qb, ob [.int .u64 m] 76), (rb, ob [ruleV mb 0, ruleV mb 1, ruleV mb 2] 83), (mb, ob [.func (.func 76) #[] #[]] 109), (pb, ob [.int .i64 regs, vb, vo] 25)]) (fun i => os.length - i) 0
      (fun a w hs => hs.lessE rfl (lk_cons rfl (lk_cons rfl (lk_cons rfl (lk_cons rfl (lk_cons rfl (lk_cons rfl (fun _ _ h => lk_nil h)))))))) ⟨Nat.zero_le _, rfl⟩ ?_
    rintro i ⟨hi, hrun⟩
    rcases Nat.lt_or_ge i os.length with hlt | hge
    · have c3 : cm .lss (i : Int) os.length = true := cm_lo (by omega)
      obtain ⟨o, ho⟩ : ∃ o, os[i]? = some o := ⟨_, List.getElem?_eq_getElem hlt⟩
      have hdr : os.drop i = o :: os.drop (i + 1) := by
        rw [List.drop_eq_getElem?_toList_append, ho]; rfl
      rw [hdr] at hrun
      obtain ⟨ha0, hal⟩ := flat_at encO_len ho
      have hA := ha0.trans (encO_ex o)
      clear ha0
      have o2 := hr.2.2 (by omega)
      have c2 : ar .add .i64 (i : Int) 1 = ((i + 1 : Nat) : Int) := wrap_nat (by omega)
      have hoo := hok o (List.mem_of_getElem? ho)
      repeat' (first | refine C.seq ?_ | refine C.region ?_ | refine L.nil ?_ | refine D.seq ?_ | refine L.move (k := ?_) | refine L.assign (k := ?_) | refine L.cm (c := ?_) | refine L.storeV 0 (c := ?_) | refine L.alloc (c := fun _ => ?_) | refine C.yes (h1 := ?_) | refine C.block ?_ | refine C.skip ?_ | refine L.makeFunc (k := ?_) | refine L.indexR s2 hlt (c := ?_) | refine L.loadOA o2 (i := i * 8) (ho := rfl) (hi := hal) (hcs := hA) (c := ?_))
      rename_i xb
      have hCR := containsR_S 58 [.pointer (some ⟨pb, 0, none⟩), .pointer (some ⟨qb, 0, none⟩), .pointer (some ⟨xb, 0, none⟩)] (ruleV mb) (ruleM bs m o) (.slice (some ⟨rb, 0, none⟩) 3 3) [0, 1, 2] (Kc regs vb vo bs o m mb pb qb xb) (fun w w' h hw => h.at hw) (fun x hx => rule_S regs vb vo bs o m mb pb qb xb hm h64 hoo x (by simp at hx; omega)) (by simp)
      have hpre : ∀ w1, At w (keys []) [(xb, ob [.int .i64 o.k, .int .i64 o.d, .int .i64 o.e, .int .i64 o.a, .int .i64 o.b, .int .i64 o.c, .int .i64 o.buf, .int .u64 o.imm] 39), (qb, ob [.int .u64 m] 76), (rb, ob [ruleV mb 0, ruleV mb 1, ruleV mb 2] 83), (mb, ob [.func (.func 76) #[] #[]] 109), (pb, ob [.int .i64 regs, vb, vo] 25)] w1 →
          Rd w1 [] (.slice (some ⟨rb, 0, none⟩) 3 3) 3 ([0, 1, 2].map (ruleV mb)) ∧ Kc regs vb vo bs o m mb pb qb xb w1 := fun w1 hw => ⟨Rd.own (hw.holds _ mem2) (by simp) (Nat.le_refl _) 3 rfl, Old.own (hw.holds _ mem4) (by simp) _ List.take_length, Old.own (hw.holds _ mem1) (by simp) _ List.take_length, Old.own (hw.holds _ mem0) (by simp) _ List.take_length, Old.own (hw.holds _ mem3) (by simp) _ List.take_length, hr.1.at hw⟩
      --@
      cases hb : badM bs m o with
      | true =>
        rw [show [0, 1, 2].any (ruleM bs m o) = true from hb] at hCR
        repeat' (first | refine C.seq ?_ | refine C.region ?_ | refine L.nil ?_ | refine D.seq ?_ | refine L.move (k := ?_) | refine L.assign (k := ?_) | refine C.yes (h1 := ?_) | refine C.ret ?_ | refine D.thenRet ?_ | refine D.blkRet ?_ | refine L.callQ hCR (hpre := fun w hw => hpre w hw) (k := ?_))
        refine D.ret (vs := [_, _]) (RV.tmp rfl (RV.tmp rfl RV.nil)) ?_
        intro w' hw
        exact Post.mk (is := []) hw List.nodup_nil rfl ⟨(i, 12), by unfold CheckIs; rw [if_pos he]; exact ⟨m, hl, hm, by rw [hrun]; unfold secRun; rw [if_pos hb]⟩, rfl, rfl⟩
      | false =>
        rw [show [0, 1, 2].any (ruleM bs m o) = false from hb] at hCR
        repeat' (first | refine C.region ?_ | refine L.nil ?_ | refine D.seq ?_ | refine L.move (k := ?_) | refine L.ar (c := ?_) | refine C.no (h1 := ?_) | refine D.blkNormal ?_ | refine C.skip ?_ | refine L.callQ hCR (hpre := fun w hw => hpre w hw) (k := ?_))
        have hrun' : secRun bs m os 0 = secRun bs m (os.drop (i + 1)) (i + 1) := by
          rw [hrun]; show (if badM bs m o then _ else _) = _; rw [hb]; rfl
        exact D.then_ fun a1 w1 hs => ⟨i + 1, ⟨by omega, hrun'⟩, by omega, hs.lessD 1 rfl (lk_cons rfl (lk_cons rfl (lk_cons rfl (lk_cons rfl (lk_cons rfl (lk_cons rfl (fun _ _ h => lk_nil h)))))))⟩
    · have c3 : cm .lss (i : Int) os.length = false := cm_lo' (by omega)
      repeat' (first | refine C.seq ?_ | refine C.region ?_ | refine L.nil ?_ | refine D.seq ?_ | refine L.assign (k := ?_) | refine L.cm (c := ?_) | refine L.fieldAddr (c := ?_) | refine L.load1 3 (c := ?_) | refine C.no (h1 := ?_) | refine C.ret ?_ | refine C.exit ?_ | refine D.thenExit ?_ | refine D.blkExit ?_ | refine L.lenR s2 (c := ?_))
      have hil : i = os.length := by omega
      subst hil
      rw [List.drop_length] at hrun
      refine D.ret (vs := [_, _]) (RV.tmp rfl (RV.tmp rfl RV.nil)) ?_
      intro w' hw
      exact Post.mk (is := []) hw List.nodup_nil rfl ⟨(os.length, 0), by unfold CheckIs; rw [if_pos he]; exact ⟨m, hl, hm, by rw [hrun]; rfl⟩, rfl, rfl⟩
  · have c1 : cm .neq (checkM regs bs os).2 0 = true := cm_ne he
    repeat' (first | refine C.seq ?_ | refine C.region ?_ | refine L.nil ?_ | refine D.seq ?_ | refine L.move (k := ?_) | refine L.assign (k := ?_) | refine L.cm (c := ?_) | refine L.extract (c := ?_) | refine C.yes (h1 := ?_) | refine C.ret ?_ | refine D.thenRet ?_)
    refine D.ret (vs := [_, _]) (RV.tmp rfl (RV.tmp rfl RV.nil)) ?_
    intro w' hw
    exact Post.mk (is := []) hw List.nodup_nil rfl ⟨checkM regs bs os, by unfold CheckIs; rw [if_neg he], rfl, rfl⟩
end Go.Proofs.Ytkjlgapkcdcmgaa
