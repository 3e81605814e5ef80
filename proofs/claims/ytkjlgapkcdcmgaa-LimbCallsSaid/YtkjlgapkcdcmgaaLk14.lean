/- secrecy: secret, Secret. -/
import Derived.Test.YtkjlgapkcdcmgaaLk13
import Derived.Test.YtkjlgapkcdcmgaaSepGZ
set_option linter.unusedVariables false
set_option linter.unusedSimpArgs false
namespace Go.Proofs.Ytkjlgapkcdcmgaa
open Go Go.RowKit SL
attribute [local irreducible] SL.L SL.C SL.D SL.N SL.H SL.QL SL.QW SL.QP

def passO (bs : List Bf) (m : Nat) (o : Lop) : Nat := if taintM bs m o then mwith (mwith m o.d) o.e else m
def passM (bs : List Bf) (os : List Lop) (m : Nat) : Nat := os.foldl (passO bs) m
def Sub (m x : Nat) : Prop := ∀ r, m.testBit r = true → x.testBit r = true
def Clo (bs : List Bf) (os : List Lop) (x : Nat) : Prop := ∀ o ∈ os, passO bs x o = x
def Least (bs : List Bf) (os : List Lop) (m : Nat) : Prop := Clo bs os m ∧ ∀ x, Clo bs os x → Sub m x
theorem Sub.refl (m : Nat) : Sub m m := fun _ h => h
theorem Sub.trans {a b c : Nat} (h : Sub a b) (k : Sub b c) : Sub a c := fun r hr => k r (h r hr)
theorem mwith_bit (m : Nat) (r : Int) (k : Nat) : (mwith m r).testBit k = (m.testBit k || (cm .geq r 0 && decide (k = r.toNat))) := by
  unfold mwith
  by_cases h : r < 0
  · rw [if_pos (by simpa [cm] using h)]
    rw [show cm .geq r 0 = false from cm_ge' h]; simp
  · rw [if_neg (by simpa [cm] using h), show cm .geq r 0 = true from cm_ge (by omega)]
    rw [Nat.testBit_or, Nat.shiftLeft_eq, Nat.one_mul, Nat.testBit_two_pow]
    simp [eq_comm]
theorem mwith_sub (m : Nat) (r : Int) : Sub m (mwith m r) := fun k h => by rw [mwith_bit, h]; rfl
theorem mwith_mono {m x : Nat} (h : Sub m x) (r : Int) : Sub (mwith m r) (mwith x r) := fun k hk => by
  rw [mwith_bit] at hk ⊢
  rcases Bool.or_eq_true_iff.1 hk with hk | hk
  · rw [h k hk]; rfl
  · rw [hk]; simp
theorem mwith_le (m : Nat) (r : Int) : m ≤ mwith m r := by
  unfold mwith
  split
  · exact Nat.le_refl _
  · exact Nat.left_le_or
theorem mhas_mono {m x : Nat} (h : Sub m x) {r : Int} (hr : mhas m r = true) : mhas x r = true := by
  unfold mhas at hr ⊢
  rw [Bool.and_eq_true] at hr ⊢
  exact ⟨hr.1, h _ hr.2⟩
theorem taint_mono {bs : List Bf} {m x : Nat} (h : Sub m x) {o : Lop} (ht : taintM bs m o = true) : taintM bs x o = true := by
  unfold taintM at ht ⊢
  split
  · rename_i hc; rw [if_pos hc] at ht; exact ht
  · rename_i hc; rw [if_neg hc] at ht
    rcases Bool.or_eq_true_iff.1 ht with ht | ht
    · rcases Bool.or_eq_true_iff.1 ht with ht | ht
      · rw [mhas_mono h ht]; rfl
      · rw [mhas_mono h ht]; simp
    · rw [mhas_mono h ht]; simp
theorem passO_sub (bs : List Bf) (m : Nat) (o : Lop) : Sub m (passO bs m o) := by
  unfold passO; split
  · exact (mwith_sub _ _).trans (mwith_sub _ _)
  · exact Sub.refl _
theorem passO_le (bs : List Bf) (m : Nat) (o : Lop) : m ≤ passO bs m o := by
  unfold passO; split
  · exact Nat.le_trans (mwith_le _ _) (mwith_le _ _)
  · exact Nat.le_refl _
theorem passO_mono {bs : List Bf} {m x : Nat} (h : Sub m x) (o : Lop) : Sub (passO bs m o) (passO bs x o) := by
  cases hm : taintM bs m o with
  | false =>
    rw [show passO bs m o = m by unfold passO; rw [hm]; rfl]
    exact h.trans (passO_sub _ _ _)
  | true =>
    have hx := taint_mono h hm
    unfold passO; rw [hm, hx]
    exact mwith_mono (mwith_mono h _) _
theorem passM_le (bs : List Bf) : ∀ (os : List Lop) (m : Nat), m ≤ passM bs os m
  | [], m => Nat.le_refl _
  | o :: os, m => Nat.le_trans (passO_le bs m o) (passM_le bs os (passO bs m o))
theorem passM_min {bs : List Bf} {x : Nat} : ∀ (os : List Lop) (m : Nat), Clo bs os x → Sub m x → Sub (passM bs os m) x
  | [], m, _, h => h
  | o :: os, m, hc, h => passM_min os (passO bs m o) (fun q hq => hc q (List.mem_cons_of_mem _ hq)) (by
      have := passO_mono (bs := bs) h o
      rwa [hc o List.mem_cons_self] at this)
theorem passM_fix {bs : List Bf} : ∀ (os : List Lop) (m : Nat), passM bs os m = m → Clo bs os m
  | [], m, _ => fun o ho => by cases ho
  | o :: os, m, h => by
    have h1 := passO_le bs m o
    have h2 : passO bs m o ≤ passM bs os (passO bs m o) := passM_le bs os _
    have h3 : passM bs os (passO bs m o) = m := h
    have h4 : passO bs m o = m := by omega
    rw [h4] at h3
    intro q hq
    rcases List.mem_cons.1 hq with rfl | hq
    · exact h4
    · exact passM_fix os m h3 q hq
theorem passM_lt {regs : Int} {bs : List Bf} (hr : regs ≤ 64) : ∀ (os : List Lop) (m : Nat), (∀ o ∈ os, OpOk regs bs o) → m < 18446744073709551616 → passM bs os m < 18446744073709551616
  | [], m, _, h => h
  | o :: os, m, hk, h => passM_lt hr os _ (fun q hq => hk q (List.mem_cons_of_mem _ hq)) (by
      have := hk o List.mem_cons_self
      unfold passO; split
      · exact mwith_lt (mwith_lt h (by have := this.d; omega)) (by have := this.e; omega)
      · exact h)
theorem least_eq {bs : List Bf} {os : List Lop} {m x : Nat} (h : Least bs os m) (k : Least bs os x) : m = x :=
  Nat.eq_of_testBit_eq fun r => Bool.eq_iff_iff.2 ⟨fun hr => h.2 x k.1 r hr, fun hr => k.2 m h.1 r hr⟩
def itP (bs : List Bf) (os : List Lop) : Nat → Nat
  | 0 => 0
  | n + 1 => passM bs os (itP bs os n)
theorem itP_min {bs : List Bf} {os : List Lop} {x : Nat} (h : Clo bs os x) : ∀ n, Sub (itP bs os n) x
  | 0 => fun r hr => by simp [itP] at hr
  | n + 1 => passM_min os _ h (itP_min h n)
theorem least_it {bs : List Bf} {os : List Lop} (n : Nat) (h : itP bs os (n + 1) = itP bs os n) : Least bs os (itP bs os n) := ⟨passM_fix os _ h, fun x hx => itP_min hx n⟩
theorem passM_take {bs : List Bf} {os : List Lop} {i : Nat} {o : Lop} (h : os[i]? = some o) (m : Nat) : passM bs (os.take (i + 1)) m = passO bs (passM bs (os.take i) m) o := by
  unfold passM; rw [List.take_add_one, h, List.foldl_append]; rfl
theorem take_mem {α : Type} {xs : List α} {n : Nat} {x : α} (h : x ∈ xs.take n) : x ∈ xs := List.mem_of_mem_take h
set_option maxHeartbeats 4000000 in
theorem secret_S (regs : Int) (vb vo : Value) (bs : List Bf) (os : List Lop) (hrg : regs ≤ 64) (hno : os.length ≤ 1000000) (hok : ∀ o ∈ os, OpOk regs bs o) : Ctr Try.prog 54 [progV regs vb vo] []
    (fun w => Rd w [] vb bs.length (bs.flatMap encB) ∧ Rd w [] vo os.length (os.flatMap encO)) (fun v B => ∃ m : Nat, Least bs os m ∧ m < 18446744073709551616 ∧ v = .int .u64 m ∧ B = []) := by
  refine Ctr.enter Try.func54 Try.ntmps54 rfl rfl (fun w hr => ?_)
  obtain ⟨hr1, hr2⟩ := hr
  have s1 := hr1.1
  have s2 := hr2.1
  unfold progV
  repeat' (first | refine C.seq ?_ | refine C.region ?_ | refine L.nil ?_ | refine D.seq ?_ | refine L.move (k := ?_) | refine L.assign (k := ?_) | refine L.box (c := fun _ => ?_) | refine C.block ?_ | refine L.inv (z := 18446744073709551615) (hz := by kernel_rfl) (c := ?_))
  rename_i pb
  refine C.loop (α := Nat × Nat) (fun x => x.2 < 18446744073709551616 ∧ (∀ z, Clo bs os z → Sub x.2 z) ∧ (passM bs os x.1 = x.2 ∨ (x.1 = 18446744073709551615 ∧ x.2 = 0)))
    (fun x => [(1, .pointer (some ⟨pb, 0, none⟩)), (2, .int .u64 x.2), (3, .int .u64 x.1)]) (fun x => [(pb, ob [.int .i64 regs, vb, vo] 25)]) (fun x => if x.1 = x.2 then 0 else 18446744073709551617 - x.2) (18446744073709551615, 0)
    (fun a w hs => hs.lessE rfl (lk_cons rfl (lk_cons rfl (lk_cons rfl (fun _ _ h => lk_nil h))))) ⟨by simp only; omega, fun z _ r h => by simp at h, .inr ⟨rfl, rfl⟩⟩ ?_
  rintro ⟨was, m⟩ ⟨hm, hmin, hp⟩
  simp only at hm hmin hp ⊢
  by_cases hw : was = m
  · have c1 : cm .neq (was : Int) m = false := cm_ne' (by omega)
    repeat' (first | refine C.seq ?_ | refine C.region ?_ | refine L.nil ?_ | refine D.seq ?_ | refine L.move (k := ?_) | refine L.assign (k := ?_) | refine L.cm (c := ?_) | refine C.no (h1 := ?_) | refine C.ret ?_ | refine C.exit ?_ | refine D.thenExit ?_ | refine D.blkExit ?_ | refine D.seqR (h := ?_))
    have hl : Least bs os m := by
      rcases hp with hp | ⟨h1, h2⟩
      · rw [hw] at hp; exact ⟨passM_fix os m hp, hmin⟩
      · omega
    (refine D.ret (vs := [_]) (RV.tmp rfl RV.nil) ?_; intro w' hw; exact Post.mk (is := []) hw List.nodup_nil rfl ⟨m, hl, hm, rfl, rfl⟩)
  · have c1 : cm .neq (was : Int) m = true := cm_ne (by omega)
    repeat' (first | refine C.seq ?_ | refine C.region ?_ | refine L.nil ?_ | refine D.seq ?_ | refine L.move (k := ?_) | refine L.assign (k := ?_) | refine L.cm (c := ?_) | refine L.fieldAddr (c := ?_) | refine L.load1 0 (c := ?_) | refine C.yes (h1 := ?_) | refine C.block ?_ | refine C.skip ?_ | refine L.lenR s2 (c := ?_))
    refine C.loop (α := Nat) (fun i => i ≤ os.length)
      (fun i => [(1, .pointer (some ⟨pb, 0, none⟩)), (2, .int .u64 (passM bs (os.take i) m : Nat)), (3, .int .u64 m), (13, vo), (14, .int .i64 os.length), (15, .int .i64 i)]) (fun i => [(pb, ob [.int .i64 regs, vb, vo] 25)]) (fun i => os.length - i) 0
      (fun a w hs => hs.lessE rfl (lk_cons rfl (lk_cons rfl (lk_cons rfl (lk_cons rfl (lk_cons rfl (lk_cons rfl (fun _ _ h => lk_nil h)))))))) (Nat.zero_le _) ?_
    intro i hi
    rcases Nat.lt_or_ge i os.length with hlt | hge
    · have c3 : cm .lss (i : Int) os.length = true := cm_lo (by omega)
      obtain ⟨o, ho⟩ : ∃ o, os[i]? = some o := ⟨_, List.getElem?_eq_getElem hlt⟩
      obtain ⟨ha0, hal⟩ := flat_at encO_len ho
      have ha := ha0.trans (encO_ex o)
      clear ha0
      have o2 := hr2.2 (by omega)
      have c2 : ar .add .i64 (i : Int) 1 = ((i + 1 : Nat) : Int) := wrap_nat (by omega)
      have hoo := hok o (List.mem_of_getElem? ho)
      have hmi : passM bs (os.take i) m < 18446744073709551616 := passM_lt hrg _ _ (fun q hq => hok q (take_mem hq)) hm
      have ht := taints_S regs vb vo bs o (passM bs (os.take i) m) hmi hrg hoo
      have w1 := mwith_S (passM bs (os.take i) m) hmi o.d (by have := hoo.d; omega)
      have w2 := mwith_S (mwith (passM bs (os.take i) m) o.d) (mwith_lt hmi (by have := hoo.d; omega)) o.e (by have := hoo.e; omega)
      have htk := passM_take (bs := bs) ho m
      cases htt : taintM bs (passM bs (os.take i) m) o with
      | true =>
        rw [htt] at ht
        repeat' (first | refine C.seq ?_ | refine C.region ?_ | refine L.nil ?_ | refine D.seq ?_ | refine L.move (k := ?_) | refine L.assign (k := ?_) | refine L.cm (c := ?_) | refine L.ar (c := ?_) | refine L.fieldAddr (c := ?_) | refine L.load1 0 (c := ?_) | refine L.loadA 0 (c := ?_) | refine L.loadA 1 (c := ?_) | refine L.storeV 0 (c := ?_) | refine L.alloc (c := fun _ => ?_) | refine C.yes (h1 := ?_) | refine C.block ?_ | refine D.blkNormal ?_ | refine C.skip ?_ | exact D.endsQ | refine QL.fin ?_ | (refine QL.step (v := ?_) (by exact rfl) (by exact rfl) ?_ ?_; rotate_left) | refine L.indexR s2 hlt (c := ?_) | refine L.loadOA o2 (i := i * 8) (ho := rfl) (hi := hal) (hcs := ha) (c := ?_) | refine L.callQ ht (hpre := fun w hw => hr1.at hw) (k := ?_) | refine L.callQ (w1) (k := ?_) | refine L.callQ (w2) (k := ?_) | refine C.quietA (h := ?_))
        rw [show passO bs (passM bs (os.take i) m) o = mwith (mwith (passM bs (os.take i) m) o.d) o.e by unfold passO; rw [htt]; rfl] at htk
        refine D.then_ fun a1 w1 hs => ⟨i + 1, by omega, by omega, hs.lessD 1 rfl ?_⟩
        rw [htk]
        exact (lk_cons rfl (lk_cons rfl (lk_cons rfl (lk_cons rfl (lk_cons rfl (lk_cons rfl (fun _ _ h => lk_nil h)))))))
      | false =>
        rw [htt] at ht
        repeat' (first | refine C.seq ?_ | refine C.region ?_ | refine L.nil ?_ | refine D.seq ?_ | refine L.move (k := ?_) | refine L.cm (c := ?_) | refine L.ar (c := ?_) | refine L.loadA 0 (c := ?_) | refine L.loadA 1 (c := ?_) | refine L.storeV 0 (c := ?_) | refine L.alloc (c := fun _ => ?_) | refine C.yes (h1 := ?_) | refine C.no (h1 := ?_) | refine C.block ?_ | refine D.blkNormal ?_ | refine C.skip ?_ | refine L.indexR s2 hlt (c := ?_) | refine L.loadOA o2 (i := i * 8) (ho := rfl) (hi := hal) (hcs := ha) (c := ?_) | refine L.callQ ht (hpre := fun w hw => hr1.at hw) (k := ?_))
        rw [show passO bs (passM bs (os.take i) m) o = passM bs (os.take i) m by unfold passO; rw [htt]; rfl] at htk
        refine D.then_ fun a1 w1 hs => ⟨i + 1, by omega, by omega, hs.lessD 1 rfl ?_⟩
        rw [htk]
        exact (lk_cons rfl (lk_cons rfl (lk_cons rfl (lk_cons rfl (lk_cons rfl (lk_cons rfl (fun _ _ h => lk_nil h)))))))
    · have c3 : cm .lss (i : Int) os.length = false := cm_lo' (by omega)
      repeat' (first | refine C.seq ?_ | refine C.region ?_ | refine L.nil ?_ | refine D.seq ?_ | refine L.cm (c := ?_) | refine C.no (h1 := ?_) | refine D.blkNormal ?_ | refine C.exit ?_ | refine D.thenExit ?_ | refine D.blkExit ?_)
      rw [List.take_of_length_le hge]
      have hge2 := passM_le bs os m
      refine D.then_ fun a1 w1 hs => ⟨(m, passM bs os m), ⟨passM_lt hrg os m hok hm, fun z hz => passM_min os m hz (hmin z hz), .inl rfl⟩, ?_, hs.lessE rfl (lk_cons rfl (lk_cons rfl (lk_cons rfl (fun _ _ h => lk_nil h))))⟩
      simp only
      rw [if_neg hw]
      split <;> omega
/-- What check tells of a program that may be. -/
theorem rrun_ok {regs : Int} {bs : List Bf} : ∀ (os : List Lop) (i : Nat) (c : Ck), (rrun regs bs os i c).2 = 0 → (rrun regs bs os i c).1 = ((i + os.length : Nat) : Int) ∧ ∀ o ∈ os, rfields regs bs o = true
  | [], i, c, _ => ⟨by unfold rrun; simp, fun o ho => by cases ho⟩
  | o :: os, i, c, h => by
    unfold rrun at h ⊢
    cases hs : rstep regs bs c o with
    | inl e => rw [hs] at h; have := rstep_ne hs; simp only at h; omega
    | inr c' =>
      rw [hs] at h
      simp only at h ⊢
      obtain ⟨h1, h2⟩ := rrun_ok os (i + 1) c' h
      refine ⟨by rw [h1, List.length_cons]; omega, fun q hq => ?_⟩
      rcases List.mem_cons.1 hq with rfl | hq
      · unfold rstep at hs
        cases hf : rfields regs bs q with
        | true => rfl
        | false => rw [hf] at hs; cases hs
      · exact h2 q hq
theorem check_ok {regs : Int} {bs : List Bf} {os : List Lop} (h : (checkM regs bs os).2 = 0) : (checkM regs bs os).1 = os.length ∧ 0 ≤ regs ∧ regs ≤ 64 ∧ bs.length ≤ 32 ∧ os.length ≤ 65536 ∧ rhead regs bs os.length = none ∧ ∀ o ∈ os, rfields regs bs o = true := by
  unfold checkM at h ⊢
  cases hh : rhead regs bs os.length with
  | some e => rw [hh] at h; have := rhead_ne hh; simp only at h; omega
  | none =>
    rw [hh] at h
    simp only at h ⊢
    obtain ⟨h1, h2⟩ := rrun_ok os 0 _ h
    obtain ⟨g0, g1, g2, g3⟩ := rhead_none hh
    exact ⟨by rw [h1]; omega, g0, g1, g2, g3, trivial, h2⟩
end Go.Proofs.Ytkjlgapkcdcmgaa
