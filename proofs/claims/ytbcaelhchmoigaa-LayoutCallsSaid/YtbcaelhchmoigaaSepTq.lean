import Derived.Test.YtbcaelhchmoigaaSep
set_option linter.unusedVariables false
set_option linter.unusedSimpArgs false
namespace Go.Proofs.Ytbcaelhchmoigaa.SL
open Go Go.RowKit
def QT (P : Program) (ops : Array Oper) (Q : Exit → Act → World → Prop) : List Oper → St → Env → Hp → Prop
  | [], _, _, _ => False
  | [o], s, E, M => L P ops Q [o] s E M
  | o :: o2 :: rest, s, E, M => ∃ d v, o.dst = some d ∧ d < s.n ∧ L P ops (EndsQ s d v M) [o] s E M ∧ QT P ops Q (o2 :: rest) s ((d, v) :: E) M
def bindsOn (o : Oper) (j : Nat) : Bool := o.after.any fun e => Region.binds .any e && e.on == j
def qOkT (n : Nat) (ops : Array Oper) : Bool := (List.range n).all (fun i => match ops[i]? with
  | none => false
  | some o => plainOp o.op &&
    (o.looksAt ops).all (fun x => (List.range n).all fun j => match ops[j]? with
      | some p => p.dst != some x || bindsOn o j
      | none => true) &&
    (List.range n).all (fun j => j == i || match ops[j]? with
      | some p => p.dst != o.dst
      | none => true)) &&
  (List.range (n + 1)).all (fun i => match ops[i]? with
  | none => false
  | some o => o.after.all (fun e => !Region.binds .any e || Nat.blt e.on i)) &&
  (List.range n).all (fun j => (List.range (n + 1)).any fun k => Nat.blt j k && match ops[k]? with
  | none => false
  | some o => bindsOn o j)
def tailQ (P : Program) (ops : Array Oper) (Q : Exit → Act → World → Prop) (ro : Option Nat) (o : Oper) : Exit → Act → World → Prop := fun _ a w => wpListIn (fen ro) 0 P ops Q [o] a w
section
variable {P : Program} {ops : Array Oper} {Q : Exit → Act → World → Prop} {s : St} {E : Env} {M : Hp}
theorem QT.step {o o2 : Oper} {rest : List Oper} {d : Nat} {v : Value} (hd : o.dst = some d := by exact rfl) (hn : Nat.blt d s.n = true := by exact rfl) (h : L P ops (EndsQ s d v M) [o] s E M) (k : QT P ops Q (o2 :: rest) s ((d, v) :: E) M) : QT P ops Q (o :: o2 :: rest) s E M :=
  ⟨d, v, hd, by simpa [Nat.blt_eq] using hn, h, k⟩
theorem QT.last {o : Oper} (h : L P ops Q [o] s E M) : QT P ops Q [o] s E M := h
theorem QT.ql : ∀ {l : List Oper} {E : Env}, QT P ops Q l s E M → ∃ r o, l = r ++ [o] ∧ QL P ops (tailQ P ops Q s.ro o) r s E M
  | [], _, h => h.elim
  | [o], E, h => ⟨[], o, rfl, fun a w hs => h a w hs⟩
  | o :: o2 :: rest, E, ⟨d, v, hd, hn, h1, h2⟩ => by
    obtain ⟨r, o', e, h3⟩ := QT.ql h2
    exact ⟨o :: r, o', by rw [e]; rfl, d, v, hd, hn, h1, h3⟩
theorem wpOp_last {ro : Option Nat} {i : Nat} {o : Oper} {K : Act → World → Prop} {a : Act} {w : World} (ho : ops[i]? = some o) (h : wpListIn (fen ro) 0 P ops Q [o] a w) (hK : ∀ a' w', Q .normal a' w' → K a' w') : wpOpIn (fen ro) 0 P ops Q i K a w := by
  unfold wpOpIn
  simp only [ho]
  unfold wpListIn at h
  split
  · rename_i hw
    rw [if_pos hw] at h
    exact Oper.wpIn_mono (fun a w h => hK a w h) h
  · rename_i hw
    rw [if_neg hw] at h
    exact ⟨h.1, hK _ _ h.2⟩
theorem QT.any {l : List Oper} {t0 : Oper} {L0 : List Oper} (hL0 : L0 = l ++ [t0]) {E0 : Env} (hq : qOkT l.length L0.toArray = true) (hE : ∀ i v, lk E0 i = some v → i < s.n) (h : QL P L0.toArray (tailQ P L0.toArray Q s.ro t0) l s E0 M) : N P L0.toArray Q L0.length (Array.replicate L0.length false) s E0 M := by
  obtain ⟨vs, hvl, hfin, hstep⟩ := h.vals
  have hLl : L0.length = l.length + 1 := by rw [hL0]; simp
  have hin : ∀ (i : Nat) (o : Oper), l[i]? = some o → L0[i]? = some o := fun i o hi => by
    rw [hL0, List.getElem?_append_left (List.getElem?_eq_some_iff.1 hi).1]; exact hi
  have hlast : L0[l.length]? = some t0 := by rw [hL0, List.getElem?_append_right (Nat.le_refl _)]; simp
  unfold qOkT at hq
  simp only [Bool.and_eq_true] at hq
  obtain ⟨⟨hqa, hqb⟩, hqc⟩ := hq
  have hbo : ∀ (o : Oper) (j : Nat), bindsOn o j = true → ∃ e ∈ o.after, Region.binds .any e = true ∧ e.on = j := fun o j hb => by
    unfold bindsOn at hb
    obtain ⟨e, he, hb⟩ := Array.any_eq_true'.1 hb
    simp only [Bool.and_eq_true, beq_iff_eq] at hb
    exact ⟨e, he, hb.1, hb.2⟩
  have haft : ∀ (i : Nat) (o : Oper), L0[i]? = some o → ∀ e ∈ o.after, Region.binds .any e = true → e.on < i := by
    intro i o hi e he hb
    have hlt : i < L0.length := (List.getElem?_eq_some_iff.1 hi).1
    have h1 := List.all_eq_true.1 hqb i (List.mem_range.2 (by omega))
    simp only [List.getElem?_toArray, hi] at h1
    have := Array.all_eq_true'.1 h1 e he
    simpa [hb, Nat.blt_eq] using this
  have hq' : ∀ (i : Nat) (o : Oper), l[i]? = some o → plainOp o.op = true ∧
      (∀ x ∈ o.looksAt L0.toArray, ∀ (j : Nat) (p : Oper), l[j]? = some p → p.dst = some x → ∃ e ∈ o.after, Region.binds .any e = true ∧ e.on = j) ∧ (∀ (j : Nat) (p : Oper), l[j]? = some p → j ≠ i → p.dst ≠ o.dst) := by
    intro i o hi
    have hlt : i < l.length := (List.getElem?_eq_some_iff.1 hi).1
    have h1 := List.all_eq_true.1 hqa i (List.mem_range.2 hlt)
    simp only [List.getElem?_toArray, hin i o hi, Bool.and_eq_true] at h1
    obtain ⟨⟨g1, g3⟩, g4⟩ := h1
    refine ⟨g1, fun x hx j p hj hp => ?_, fun j p hj hne => ?_⟩
    · have h2 := List.all_eq_true.1 (List.all_eq_true.1 g3 x hx) j (by simpa using (List.getElem?_eq_some_iff.1 hj).1)
      simp only [List.getElem?_toArray, hin j p hj, hp, bne_self_eq_false, Bool.false_or] at h2
      exact hbo o j h2
    · have h2 := List.all_eq_true.1 g4 j (by simpa using (List.getElem?_eq_some_iff.1 hj).1)
      simp only [List.getElem?_toArray, hin j p hj, Bool.or_eq_true, beq_iff_eq, hne, false_or, bne_iff_ne] at h2
      exact h2
  have hdst : ∀ (i : Nat) (o : Oper) (v : Value), l[i]? = some o → vs[i]? = some v → ∃ d, o.dst = some d ∧ d < s.n := fun i o v h1 h2 => by
    obtain ⟨d, g1, g2, _⟩ := hstep i o v h1 h2; exact ⟨d, g1, g2⟩
  have hval : ∀ (i : Nat) (o : Oper), l[i]? = some o → ∃ v, vs[i]? = some v := fun i o hi => by
    have hlt : i < vs.length := by rw [hvl]; exact (List.getElem?_eq_some_iff.1 hi).1
    exact ⟨vs[i], List.getElem?_eq_getElem hlt⟩
  have hdif : ∀ (i : Nat) (j : Nat) (o : Oper) (p : Oper), l[i]? = some o → l[j]? = some p → j ≠ i → p.dst.getD 0 ≠ o.dst.getD 0 := by
    intro i j o p hi hj hne
    obtain ⟨v, hv⟩ := hval i o hi
    obtain ⟨u, hu⟩ := hval j p hj
    obtain ⟨d, hd, _⟩ := hdst i o v hi hv
    obtain ⟨e, he, _⟩ := hdst j p u hj hu
    have := (hq' i o hi).2.2 j p hj hne
    rw [hd, he] at this
    rw [hd, he]
    exact fun h => this (congrArg some h)
  have hdone : ∀ (listed : Array Bool), (∀ j, j < l.length + 1 → listed.getD j true = true) → Region.ready .any L0.toArray listed = [] := by
    intro listed hall
    unfold Region.ready
    refine List.filter_eq_nil_iff.2 fun j hj => ?_
    rw [hall j (by have : j < L0.toArray.size := by simpa using hj
                   simp at this; omega)]; simp
  have main : ∀ (fuel : Nat) (listed : Array Bool) (a : Act) (w : World), listed.size = l.length + 1 → (un (l.length + 1) listed).length ≤ fuel → listed.getD l.length true = false → At s.w0 s.A M w → a.defers = s.dl → a.tmps.size = s.n →
      (∀ (k : Nat) (o : Oper), l[k]? = some o → listed.getD k true = true → ∀ e ∈ o.after, Region.binds .any e = true → listed.getD e.on true = true) →
      (∀ x v, lk E0 x = some v → (∀ (j : Nat) (o : Oper), l[j]? = some o → o.dst.getD 0 ≠ x) → a.tmps[x]? = some v) →
      (∀ (j : Nat) (o : Oper) (v : Value), l[j]? = some o → vs[j]? = some v → listed.getD j true = true → a.tmps[o.dst.getD 0]? = some v) →
      wpAnyIn (fen s.ro) 0 P .any L0.toArray Q fuel listed a w := by
    intro fuel
    have hready : ∀ (listed : Array Bool), listed.size = l.length + 1 → Region.ready .any L0.toArray listed = [] → ∀ j, j < l.length + 1 → listed.getD j true = true := by
      intro listed hsz hr j
      induction j using Nat.strongRecOn with
      | _ j ih =>
        intro hj
        cases hl : listed.getD j true with
        | true => rfl
        | false =>
          exfalso
          have ho : L0[j]? = some L0[j] := List.getElem?_eq_getElem (by omega)
          have : j ∈ Region.ready .any L0.toArray listed := by
            unfold Region.ready
            refine List.mem_filter.2 ⟨by simp; omega, ?_⟩
            simp only [hl, List.getElem?_toArray, ho, Option.map_some, Option.getD_some, Bool.not_false, Bool.true_and]
            refine Array.all_eq_true'.2 fun e he => ?_
            cases hb : Region.binds .any e with
            | false => rfl
            | true =>
              have hlt := haft j _ ho e he hb
              have h2 := ih e.on hlt (by omega)
              rw [Array.getD_eq_getD_getElem?] at h2 ⊢
              rw [Array.getElem?_eq_getElem (by omega)] at h2 ⊢
              simpa using h2
          rw [hr] at this; cases this
    induction fuel with
    | zero =>
      intro listed a w hsz hun hn hw hdl hts hcl hb hv
      have : l.length ∈ un (l.length + 1) listed := List.mem_filter.2 ⟨List.mem_range.2 (Nat.lt_succ_self _), by rw [hn]; rfl⟩
      have := List.length_pos_of_mem this
      omega
    | succ fuel ih =>
      intro listed a w hsz hun hn hw hdl hts hcl hb hv
      refine ⟨fun hr => absurd (hready listed hsz hr l.length (Nat.lt_succ_self _)) (by rw [hn]; exact Bool.false_ne_true), fun i hi => ?_⟩
      unfold Region.ready at hi
      obtain ⟨hir, hi⟩ := List.mem_filter.1 hi
      have hlt0 : i < L0.length := by simpa using hir
      have ho0 : L0[i]? = some L0[i] := List.getElem?_eq_getElem hlt0
      obtain ⟨o, hoe⟩ : ∃ (o : Oper), o = L0[i] := ⟨_, rfl⟩
      rw [← hoe] at ho0
      simp only [List.getElem?_toArray, ho0, Option.map_some, Option.getD_some, Bool.and_eq_true, Bool.not_eq_true'] at hi
      obtain ⟨hun_i, hafter⟩ := hi
      have hdeps : ∀ e ∈ o.after, Region.binds .any e = true → listed.getD e.on true = true := by
        intro e he hbd
        have := Array.all_eq_true'.1 hafter e he
        simp only [hbd, Bool.not_true, Bool.false_or] at this
        have hlt2 := haft i o ho0 e he hbd
        rw [Array.getD_eq_getD_getElem?] at this ⊢
        rw [Array.getElem?_eq_getElem (by omega)] at this ⊢
        simpa using this
      rcases Nat.lt_or_ge i l.length with hlt | hge
      · have ho : l[i]? = some o := by rw [hL0, List.getElem?_append_left hlt] at ho0; exact ho0
        obtain ⟨v, hvi⟩ := hval i o ho
        obtain ⟨d, hd, hdn, hL⟩ := hstep i o v ho hvi
        obtain ⟨q1, q3, q4⟩ := hq' i o ho
        have q2 := haft i o ho0
        obtain ⟨Ei, hEi⟩ : ∃ Ei, Ei = tEnv (l.take i) (vs.take i) E0 := ⟨_, rfl⟩
        rw [← hEi] at hL
        have htl : (l.take i).length = (vs.take i).length := by rw [List.length_take, List.length_take, hvl]
        have hlt_of : ∀ x u, lk Ei x = some u → x < s.n := by
          intro x u hx
          rw [hEi] at hx
          rcases lk_tEnv htl hx with ⟨j, p, h1, rfl, h3⟩ | ⟨_, h2⟩
          · rw [List.getElem?_take] at h1 h3
            split at h1
            · rename_i hji
              rw [if_pos hji] at h3
              obtain ⟨e, he, hen⟩ := hdst j p u h1 h3
              rw [he]; exact hen
            · cases h1
          · exact hE x u h2
        obtain ⟨a', ha'⟩ : ∃ a' : Act, a' = { a with tmps := Array.ofFn (n := s.n) fun k => (lk Ei k.1).getD (a.tmps.getD k.1 undef) } := ⟨_, rfl⟩
        have ht' : ∀ x, x < s.n → a'.tmps[x]? = some ((lk Ei x).getD (a.tmps.getD x undef)) := by
          intro x hx
          rw [ha']
          simp [hx]
        have hsz' : a'.tmps.size = s.n := by rw [ha']; simp
        have hdl' : a'.defers = s.dl := by rw [ha']; exact hdl
        have hsat : Sat s Ei M a' w := ⟨hw, hdl', hsz', fun x u hx => by rw [ht' x (hlt_of x u hx), hx]; rfl⟩
        have hsame : ∀ x ∈ o.looksAt L0.toArray, a.tmps[x]? = a'.tmps[x]? := by
          intro x hx
          rcases Nat.lt_or_ge x s.n with hxn | hxn
          · rw [ht' x hxn]
            cases hl : lk Ei x with
            | none =>
              rw [Array.getD_eq_getD_getElem?, Array.getElem?_eq_getElem (by omega)]; rfl
            | some u =>
              rw [hEi] at hl
              rcases lk_tEnv htl hl with ⟨j, p, h1, hpx, h3⟩ | ⟨h1, h2⟩
              · rw [List.getElem?_take] at h1 h3
                split at h1
                · rename_i hji
                  rw [if_pos hji] at h3
                  obtain ⟨e, he, hen⟩ := hdst j p u h1 h3
                  have hpx' : p.dst = some x := by rw [he] at hpx ⊢; simpa using hpx
                  obtain ⟨ed, hed, hbd, rfl⟩ := q3 x hx j p h1 hpx'
                  have := hv ed.on p u h1 h3 (hdeps ed hed hbd)
                  rw [hpx] at this; exact this
                · cases h1
              · refine hb x u h2 (fun j p hj e => ?_)
                obtain ⟨u', hu'⟩ := hval j p hj
                obtain ⟨e', he', _⟩ := hdst j p u' hj hu'
                have hpx' : p.dst = some x := by rw [he'] at e ⊢; simpa using e
                obtain ⟨ed, hed, hbd, rfl⟩ := q3 x hx j p hj hpx'
                have hlt2 := q2 ed hed hbd
                exact h1 ed.on p (by rw [List.getElem?_take, if_pos hlt2]; exact hj) e
          · rw [Array.getElem?_eq_none (by omega), Array.getElem?_eq_none (by omega)]
        have hset : ∀ j, j ≠ i → (listed.setIfInBounds i true).getD j true = listed.getD j true := fun j hji => by
          rw [Array.getD_eq_getD_getElem?, Array.getElem?_setIfInBounds_ne (fun e => hji e.symm), ← Array.getD_eq_getD_getElem?]
        have hup : ∀ j, listed.getD j true = true → (listed.setIfInBounds i true).getD j true = true := fun j hj => by
          by_cases hji : j = i
          · subst hji; rw [hun_i] at hj; cases hj
          · rw [hset j hji]; exact hj
        refine wpOp_like (s := s) (M := M) (v := v) (by simpa using ho0) q1 hd (by rw [hsz']; exact hdn) hdl' hsame (hL a' w hsat) (fun w' hw' => ?_)
        refine ih _ _ _ (by simpa using hsz) (by have := un_set (n := l.length + 1) (by omega) hsz hun_i; omega) (by rw [hset _ (by omega)]; exact hn) hw' hdl (by simpa [Act.put] using hts) (fun k p hk hlk e he hbd => ?_) (fun x u hx hn => ?_) (fun j p u hj hu hlj => ?_)
        · by_cases hki : k = i
          · subst hki
            rw [ho] at hk; cases hk
            exact hup _ (hdeps e he hbd)
          · rw [hset k hki] at hlk
            exact hup _ (hcl k p hk hlk e he hbd)
        · have hne := hn i o ho
          rw [hd] at hne
          simp only [Act.put]
          rw [Array.getElem?_setIfInBounds_ne (by simpa using hne)]
          exact hb x u hx hn
        · simp only [Act.put]
          by_cases hji : j = i
          · subst hji
            rw [ho] at hj; cases hj
            rw [hvi] at hu; cases hu
            rw [hd]
            simp only [Option.getD_some]
            rw [Array.getElem?_setIfInBounds_self_of_lt (by rw [hts]; exact hdn)]
          · have hne := hdif i j o p ho hj hji
            rw [hd] at hne
            rw [Array.getElem?_setIfInBounds_ne (fun e => hne (by simpa using e.symm))]
            exact hv j p u hj hu (by rw [hset j hji] at hlj; exact hlj)
      · have hil : i = l.length := by omega
        subst hil
        rw [hlast] at ho0
        cases ho0
        have hall : ∀ m, ∀ j, j < l.length → l.length ≤ j + m → listed.getD j true = true := by
          intro m
          induction m with
          | zero => intro j hj hm; omega
          | succ m ihm =>
            intro j hj hm
            have h1 := List.all_eq_true.1 hqc j (List.mem_range.2 hj)
            obtain ⟨k, hk, h2⟩ := List.any_eq_true.1 h1
            rw [Bool.and_eq_true, Nat.blt_eq] at h2
            have hkl := List.mem_range.1 hk
            rcases Nat.lt_or_ge k l.length with h3 | h3
            · have hp : l[k]? = some l[k] := List.getElem?_eq_getElem h3
              have h4 := h2.2
              simp only [List.getElem?_toArray, hin k _ hp] at h4
              obtain ⟨e, he, hbd, rfl⟩ := hbo _ _ h4
              exact hcl k _ hp (ihm k h3 (by omega)) e he hbd
            · have : k = l.length := by omega
              subst this
              have h4 := h2.2
              simp only [List.getElem?_toArray, hlast] at h4
              obtain ⟨e, he, hbd, rfl⟩ := hbo _ _ h4
              exact hdeps e he hbd
        have hall' : ∀ j, j < l.length → listed.getD j true = true := fun j hj => hall l.length j hj (by omega)
        refine wpOp_last (by simpa using hlast) (hfin a w ⟨hw, hdl, hts, fun x v hx => ?_⟩) (fun a' w' hQ => wpAnyIn_done (hdone _ (fun j hj => ?_)) hQ fuel)
        · rcases lk_tEnv hvl.symm hx with ⟨j, o, h1, rfl, h3⟩ | ⟨h1, h2⟩
          · exact hv j o v h1 h3 (hall' j (List.getElem?_eq_some_iff.1 h1).1)
          · exact hb x v h2 h1
        · by_cases hji : j = l.length
          · subst hji
            rw [Array.getD_eq_getD_getElem?, Array.getElem?_setIfInBounds_self_of_lt (by omega)]; rfl
          · rw [Array.getD_eq_getD_getElem?, Array.getElem?_setIfInBounds_ne (fun e => hji e.symm), ← Array.getD_eq_getD_getElem?]
            exact hall' j (by omega)
  intro a w hs
  refine main L0.length _ a w (by simp [hLl]) (by unfold un; exact Nat.le_trans (List.length_filter_le _ _) (by simp [hLl])) (by simp [hLl]) hs.at_ hs.defers hs.size (fun k o hk hl => ?_) (fun x v hx _ => hs.env x v hx) (fun j o v hj hv hl => ?_)
  · have hlt : k < l.length := (List.getElem?_eq_some_iff.1 hk).1
    simp [show k < L0.length by omega] at hl
  · have hlt : j < l.length := (List.getElem?_eq_some_iff.1 hj).1
    simp [show j < L0.length by omega] at hl
theorem C.tail {id : Nat} {L0 : List Oper} (hm : P.follows .mixedOrders = true := by kernel_rfl) (hq : qOkT (L0.length - 1) L0.toArray = true := by decide +kernel) (h : QT P L0.toArray Q L0 s E M) : C P (.region id L0.toArray true) Q s E M := by
  intro a w hs
  have hE : ∀ i v, lk E i = some v → i < s.n := fun i v h => by rw [← hs.size]; exact (Array.getElem?_eq_some_iff.1 (hs.env i v h)).1
  obtain ⟨l, t0, e, h2⟩ := h.ql
  exact C.draw hm (QT.any e (by rw [e] at hq ⊢; simpa using hq) hE h2) a w hs
end
end Go.Proofs.Ytbcaelhchmoigaa.SL
