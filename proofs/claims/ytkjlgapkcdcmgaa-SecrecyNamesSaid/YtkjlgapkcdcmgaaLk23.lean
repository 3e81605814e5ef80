/- SecrecyNamed: plain. -/
import Derived.Test.YtkjlgapkcdcmgaaLk20
set_option linter.unusedVariables false
set_option linter.unusedSimpArgs false
namespace Go.Proofs.Ytkjlgapkcdcmgaa
open Go Go.RowKit SL

def ren (nb : Nat) (o : Lop) : Lop := if cm .eql o.k 14 || cm .eql o.k 15 then ⟨o.k, o.d, o.e, o.a, o.b, o.c, (nb : Int) - 1 - o.buf, o.imm⟩ else o
theorem ren_k (nb : Nat) (o : Lop) : (ren nb o).k = o.k := by unfold ren; split <;> rfl
theorem ren_d (nb : Nat) (o : Lop) : (ren nb o).d = o.d := by unfold ren; split <;> rfl
theorem ren_e (nb : Nat) (o : Lop) : (ren nb o).e = o.e := by unfold ren; split <;> rfl
theorem ren_a (nb : Nat) (o : Lop) : (ren nb o).a = o.a := by unfold ren; split <;> rfl
theorem ren_b (nb : Nat) (o : Lop) : (ren nb o).b = o.b := by unfold ren; split <;> rfl
theorem ren_c (nb : Nat) (o : Lop) : (ren nb o).c = o.c := by unfold ren; split <;> rfl
theorem ren_imm (nb : Nat) (o : Lop) : (ren nb o).imm = o.imm := by unfold ren; split <;> rfl
theorem bAt_rev {bs : List Bf} {i : Int} (h0 : 0 ≤ i) (h1 : i < bs.length) : bAt bs.reverse ((bs.length : Int) - 1 - i) = bAt bs i := by
  unfold bAt
  rw [List.getElem?_reverse (by omega), show bs.length - 1 - ((bs.length : Int) - 1 - i).toNat = i.toNat by omega]
theorem ren_buf {bs : List Bf} {o : Lop} (hk : mem o = true) (h : 0 ≤ o.buf ∧ o.buf < bs.length) : bAt bs.reverse (ren bs.length o).buf = bAt bs o.buf ∧ 0 ≤ (ren bs.length o).buf ∧ (ren bs.length o).buf < bs.length := by
  have e : (ren bs.length o).buf = (bs.length : Int) - 1 - o.buf := by unfold ren; rw [if_pos hk]
  rw [e]
  exact ⟨bAt_rev h.1 h.2, by omega, by omega⟩
theorem rf_ren {regs : Int} {bs : List Bf} {o : Lop} (h : rfields regs bs o = true) (hok : OpOk regs bs o) : rfields regs bs.reverse (ren bs.length o) = true := by
  obtain ⟨h1, h2⟩ := rf_bad h
  unfold rfields at h ⊢
  rw [if_neg (ne_true_of_eq_false h1), if_neg (ne_true_of_eq_false h2)] at h
  have g1 : (cm .lss (ren bs.length o).k 1 || cm .gtr (ren bs.length o).k 17) = false := by rw [ren_k]; exact h1
  have g2 : rbad regs (ren bs.length o) = false := by unfold rbad mem hasE at h2 ⊢; rw [ren_k, ren_d, ren_e, ren_a, ren_b, ren_c]; exact h2
  rw [if_neg (ne_true_of_eq_false g1), if_neg (ne_true_of_eq_false g2)]
  have g3 : mem (ren bs.length o) = mem o := by unfold mem; rw [ren_k]
  rw [g3]
  cases hm : mem o with
  | true =>
    obtain ⟨b1, b2, b3⟩ := ren_buf (bs := bs) hm (hok.buf (by simpa [mem, cm] using hm))
    rw [hm, if_pos rfl] at h
    rw [if_pos rfl, b1, ren_k, ren_a, ren_imm, List.length_reverse]
    rw [cm_lo' b2, cm_ge' b3]
    have hb := hok.buf (by simpa [mem, cm] using hm)
    rw [cm_lo' hb.1, cm_ge' hb.2] at h
    exact h
  | false =>
    rw [hm] at h
    have e : ren bs.length o = o := by unfold ren; rw [if_neg (ne_true_of_eq_false hm)]
    rw [e]
    simpa using h
theorem makes_ren (nb : Nat) (o : Lop) : makesM (ren nb o) = makesM o := by unfold makesM; rw [ren_k, ren_d, ren_e]
theorem takes_ren (nb : Nat) (o : Lop) : takesM (ren nb o) = takesM o := by unfold takesM; rw [ren_k, ren_a, ren_b, ren_c]
theorem rstep_ren {regs : Int} {bs : List Bf} {o : Lop} (h : rfields regs bs o = true) (hok : OpOk regs bs o) (c : Ck) : rstep regs bs.reverse c (ren bs.length o) = rstep regs bs c o := by
  unfold rstep
  rw [h, rf_ren h hok, makes_ren, takes_ren, ren_k, ren_d]
theorem rrun_ren {regs : Int} {bs : List Bf} : ∀ (os : List Lop) (i : Nat) (c : Ck), (∀ o ∈ os, rfields regs bs o = true ∧ OpOk regs bs o) → rrun regs bs.reverse (os.map (ren bs.length)) i c = rrun regs bs os i c
  | [], _, _, _ => rfl
  | o :: os, i, c, h => by
    have ho := h o List.mem_cons_self
    rw [List.map_cons]
    unfold rrun
    rw [rstep_ren ho.1 ho.2]
    cases rstep regs bs c o with
    | inl e => rfl
    | inr c' => exact rrun_ren os (i + 1) c' (fun q hq => h q (List.mem_cons_of_mem _ hq))
theorem check_ren {regs : Int} {bs : List Bf} {os : List Lop} (he : (checkM regs bs os).2 = 0) : checkM regs bs.reverse (os.map (ren bs.length)) = checkM regs bs os := by
  obtain ⟨_, h0, _, _, _, hh, hf⟩ := check_ok he
  have h : rhead regs bs.reverse (os.map (ren bs.length)).length = rhead regs bs os.length := by
    unfold rhead; rw [List.length_reverse, List.length_map, List.any_reverse, List.any_reverse]
  unfold checkM
  rw [h, hh]
  exact rrun_ren os 0 _ (fun o ho => ⟨hf o ho, opOk h0 (hf o ho)⟩)
theorem taint_ren {regs : Int} {bs : List Bf} {o : Lop} (hok : OpOk regs bs o) (x : Nat) : taintM bs.reverse x (ren bs.length o) = taintM bs x o := by
  unfold taintM
  rw [ren_k, ren_a, ren_b, ren_c]
  cases hk : cm .eql o.k 14 with
  | false => rfl
  | true =>
    have hm : mem o = true := by unfold mem; rw [hk]; rfl
    rw [(ren_buf (bs := bs) hm (hok.buf (.inl (by simpa [cm] using hk)))).1]
theorem pass_ren {regs : Int} {bs : List Bf} {o : Lop} (hok : OpOk regs bs o) (x : Nat) : passO bs.reverse x (ren bs.length o) = passO bs x o := by
  unfold passO; rw [taint_ren hok, ren_d, ren_e]
theorem least_ren {regs : Int} {bs : List Bf} {os : List Lop} (hok : ∀ o ∈ os, OpOk regs bs o) {m : Nat} (h : Least bs.reverse (os.map (ren bs.length)) m) : Least bs os m := by
  have hc : ∀ x, Clo bs.reverse (os.map (ren bs.length)) x ↔ Clo bs os x := fun x =>
    ⟨fun h o ho => by have := h _ (List.mem_map_of_mem ho); rwa [pass_ren (hok o ho)] at this,
     fun h o ho => by
      obtain ⟨q, hq, rfl⟩ := List.mem_map.1 ho
      rw [pass_ren (hok q hq)]; exact h q hq⟩
  exact ⟨(hc m).1 h.1, fun x hx => h.2 x ((hc x).2 hx)⟩
theorem bad_ren {regs : Int} {bs : List Bf} {o : Lop} (hok : OpOk regs bs o) (m : Nat) : badM bs.reverse m (ren bs.length o) = badM bs m o := by
  have h1 : ruleM bs.reverse m (ren bs.length o) 1 = ruleM bs m o 1 := by
    unfold ruleM
    rw [ren_k, ren_b]
    cases hk : cm .eql o.k 15 with
    | false => rfl
    | true =>
      have hm : mem o = true := by unfold mem; rw [hk]; simp
      rw [(ren_buf (bs := bs) hm (hok.buf (.inr (by simpa [cm] using hk)))).1]; rfl
  have h0 : ruleM bs.reverse m (ren bs.length o) 0 = ruleM bs m o 0 := by
    show (mem _ && _) = _; unfold mem; rw [ren_k, ren_a]; rfl
  have h2 : ruleM bs.reverse m (ren bs.length o) 2 = ruleM bs m o 2 := by
    show (cm .eql (ren bs.length o).k 16 && _) = _; rw [ren_k, ren_d]; rfl
  unfold badM
  simp only [List.any_cons, List.any_nil, h0, h1, h2]
theorem secRun_ren {regs : Int} {bs : List Bf} (m : Nat) : ∀ (os : List Lop) (i : Nat), (∀ o ∈ os, OpOk regs bs o) → secRun bs.reverse m (os.map (ren bs.length)) i = secRun bs m os i
  | [], _, _ => rfl
  | o :: os, i, h => by
    rw [List.map_cons]
    unfold secRun
    rw [bad_ren (h o List.mem_cons_self), secRun_ren m os (i + 1) (fun q hq => h q (List.mem_cons_of_mem _ hq))]
/-- What is put ahead. -/
def ahead (regs n : Int) : Lop := ⟨1, regs, -1, -1, -1, -1, 0, n⟩
theorem pass_ahead (bs : List Bf) (regs n : Int) (x : Nat) : passO bs x (ahead regs n) = x := by
  have : taintM bs x (ahead regs n) = false := by
    unfold taintM ahead mhas; simp [cm]
  unfold passO; rw [this]; rfl
theorem least_ahead {bs : List Bf} {os : List Lop} {regs n : Int} {m : Nat} (h : Least bs (ahead regs n :: os) m) : Least bs os m := by
  have hc : ∀ x, Clo bs (ahead regs n :: os) x ↔ Clo bs os x := fun x =>
    ⟨fun h o ho => h o (List.mem_cons_of_mem _ ho), fun h o ho => by
      rcases List.mem_cons.1 ho with rfl | ho
      · exact pass_ahead _ _ _ _
      · exact h o ho⟩
  exact ⟨(hc m).1 h.1, fun x hx => h.2 x ((hc x).2 hx)⟩
theorem mhas_mod {m : Nat} {regs : Nat} {r : Int} (hr : r < regs) : mhas (m % 2 ^ regs) r = mhas m r := by
  unfold mhas
  by_cases h : 0 ≤ r
  · rw [Nat.testBit_mod_two_pow, show decide (r.toNat < regs) = true from decide_eq_true (by omega), Bool.true_and]
  · rw [show cm .geq r 0 = false from cm_ge' (by omega)]; rfl
theorem mwith_mod {m : Nat} {regs : Nat} {r : Int} (hr : r < regs) : mwith (m % 2 ^ regs) r = mwith m r % 2 ^ regs := by
  refine Nat.eq_of_testBit_eq fun k => ?_
  rw [mwith_bit, Nat.testBit_mod_two_pow, Nat.testBit_mod_two_pow, mwith_bit]
  by_cases h : 0 ≤ r
  · by_cases hk : k = r.toNat
    · rw [show decide (k < regs) = true from decide_eq_true (by omega), Bool.true_and, Bool.true_and]
    · simp [hk]
  · rw [show cm .geq r 0 = false from cm_ge' (by omega)]; simp
theorem least_bit {bs : List Bf} {os : List Lop} {m n : Nat} (hok : ∀ o ∈ os, OpOk n bs o) (h : Least bs os m) : m.testBit n = false := by
  have hc : Clo bs os (m % 2 ^ n) := fun o ho => by
    have k := hok o ho
    have hm := h.1 o ho
    have ht : taintM bs (m % 2 ^ n) o = taintM bs m o := by
      unfold taintM; rw [mhas_mod k.a, mhas_mod k.b, mhas_mod k.c]
    unfold passO at hm ⊢
    rw [ht]
    split
    · rename_i h1
      rw [if_pos h1] at hm
      rw [mwith_mod k.d, mwith_mod k.e, hm]
    · rfl
  cases hb : m.testBit n with
  | false => rfl
  | true =>
    have := h.2 _ hc n hb
    rw [Nat.testBit_mod_two_pow] at this
    simp at this
theorem secRun_succ (bs : List Bf) (m : Nat) : ∀ (os : List Lop) (i : Nat), secRun bs m os (i + 1) = ((secRun bs m os i).1 + 1, (secRun bs m os i).2)
  | [], i => by simp [secRun]
  | o :: os, i => by
    unfold secRun
    cases badM bs m o with
    | true => simp
    | false => simp only [Bool.false_eq_true, if_false]; exact secRun_succ bs m os (i + 1)
theorem secRun_ahead (bs : List Bf) (m : Nat) (regs n : Int) (os : List Lop) (hb : mhas m regs = false) : secRun bs m (ahead regs n :: os) 0 = ((secRun bs m os 0).1 + 1, (secRun bs m os 0).2) := by
  have : badM bs m (ahead regs n) = false := by
    simp [badM, ruleM, ahead, cm, mem]
  show (if badM bs m (ahead regs n) then _ else secRun bs m os (0 + 1)) = _
  rw [this]
  exact secRun_succ bs m os 0
theorem secRun_le (bs : List Bf) (m : Nat) : ∀ (os : List Lop) (i : Nat), (i : Int) ≤ (secRun bs m os i).1 ∧ (secRun bs m os i).1 ≤ ((i + os.length : Nat) : Int)
  | [], i => by simp [secRun]
  | o :: os, i => by
    unfold secRun
    split
    · simp; omega
    · have := secRun_le bs m os (i + 1)
      rw [List.length_cons]; omega
/-- A checker that knows one register more. -/
def CkUp (regs : Int) (c c' : Ck) : Prop := c.loops = c'.loops ∧ (∀ r, 0 ≤ r → r < regs → mdAt c.made r = mdAt c'.made r) ∧ regs ≤ c.made.length ∧ regs ≤ c'.made.length ∧ ∀ r ∈ c.loops, 0 ≤ r ∧ r < regs
theorem rf_up {regs : Int} {bs : List Bf} {o : Lop} (h : rfields regs bs o = true) : rfields (regs + 1) bs o = true := by
  obtain ⟨h1, h2⟩ := rf_bad h
  have h3 : rbad (regs + 1) o = false := by
    have hk := kinds h1
    clear h h1
    rcases hk with hk | hk | hk | hk | hk | hk | hk | hk | hk | hk | hk | hk | hk | hk | hk | hk | hk
    all_goals (simp [rbad, fieldM, cm, hasE, mem, hk] at h2 ⊢; try (first | omega | grind))
  unfold rfields at h ⊢
  rw [if_neg (ne_true_of_eq_false h1), if_neg (ne_true_of_eq_false h2)] at h
  rw [if_neg (ne_true_of_eq_false h1), if_neg (ne_true_of_eq_false h3)]
  exact h
theorem rstep_up {regs : Int} {bs : List Bf} {o : Lop} (hf : rfields regs bs o = true) (c : Ck) : rstep (regs + 1) bs c o = rstep regs bs c o := by
  unfold rstep; rw [hf, rf_up hf]
theorem rrun_up {regs : Int} {bs : List Bf} : ∀ (os : List Lop) (i : Nat) (c : Ck), (∀ o ∈ os, rfields regs bs o = true) → rrun (regs + 1) bs os i c = rrun regs bs os i c
  | [], _, _, _ => rfl
  | o :: os, i, c, h => by
    unfold rrun
    rw [rstep_up (h o List.mem_cons_self)]
    cases rstep regs bs c o with
    | inl e => rfl
    | inr c' => exact rrun_up os (i + 1) c' (fun q hq => h q (List.mem_cons_of_mem _ hq))
theorem rrun_at {regs : Int} {bs : List Bf} : ∀ (os : List Lop) (i : Nat) (c : Ck), rrun regs bs os (i + 1) c = ((rrun regs bs os i c).1 + 1, (rrun regs bs os i c).2)
  | [], i, c => by simp [rrun]
  | o :: os, i, c => by
    unfold rrun
    cases rstep regs bs c o with
    | inl e => simp
    | inr c' => exact rrun_at os (i + 1) c'
theorem check_ahead {regs n : Int} {bs : List Bf} {os : List Lop} (he : (checkM regs bs os).2 = 0) (hr : regs ≤ 60) (ho : os.length ≤ 60) (hn : n ≤ 18446744073709551615) : (checkM (regs + 1) bs (ahead regs n :: os)).2 = 0 := by
  obtain ⟨h1, h0, h64, hb, hno, hh, hf⟩ := check_ok he
  have hh2 : rhead (regs + 1) bs (ahead regs n :: os).length = none := by
    unfold rhead at hh ⊢
    split at hh
    · cases hh
    · split at hh
      · cases hh
      · split at hh
        · cases hh
        · split at hh
          · cases hh
          · rename_i g1 g2 g3 g4
            rw [if_neg (by simp [cm, List.length_cons]; omega), if_neg g2, if_neg (by simp [cm]; omega), if_neg g4]
  have hra : rfields (regs + 1) bs (ahead regs n) = true := by
    simp [rfields, rbad, fieldM, ahead, cm, mem, hasE]
    exact ⟨h0, decide_eq_true (by omega)⟩
  unfold checkM at he ⊢
  rw [hh] at he
  rw [hh2]
  simp only at he ⊢
  have hs : rstep (regs + 1) bs ⟨List.replicate (regs + 1).toNat false, []⟩ (ahead regs n) = .inr ⟨(List.replicate (regs + 1).toNat false).set regs.toNat true, []⟩ := by
    unfold rstep
    rw [hra]
    simp [ahead, cm, makesM, takesM, setAll]
  unfold rrun
  rw [hs]
  simp only
  rw [rrun_at, rrun_up os 0 _ hf]
  simp only
  rw [← he]
  refine congrArg Prod.snd (rrun_sim os 0 ⟨rfl, fun r h1 h2 => ?_, by simp; omega, by simp; omega, fun r hr => by cases hr⟩)
  have hkl : (0 : Int) ≤ regs ∧ regs < (List.replicate (regs + 1).toNat false).length := by simp; omega
  rw [mdAt_set _ _ _ _ hkl h1, if_neg (by omega), mdAt_rep, mdAt_rep]
end Go.Proofs.Ytkjlgapkcdcmgaa
