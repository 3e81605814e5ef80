/- The separation logic's rule for a drawn region whose first operations turn nothing of one's own and whose last ones come behind all of these in every order (a call of yield at the end). No program in sight. -/
import Derived.Test.YtpemoeincepilaaDoorSepX
import Derived.KernelRfl
set_option linter.unusedVariables false
set_option linter.unusedSimpArgs false
namespace Go.Proofs.YtpemoeincepilaaDoor.SL
open Go Go.RowKit

/-- What an operation comes behind. -/
def afs (ops : Array Oper) (i : Nat) : List Nat := match ops[i]? with
  | none => []
  | some o => (o.after.toList.filter (fun e => Region.binds .any e)).map (·.on)
def ancT (ops : Array Oper) : Nat → List Nat → List Nat
  | 0, S => S
  | n + 1, S => ancT ops n (S ++ S.flatMap (afs ops))
/-- Do all operations from m on come behind each one ahead of m? -/
def tOk (ops : Array Oper) (m n : Nat) : Bool := (List.range ops.size).all fun i => Nat.blt i m || (List.range m).all fun j => (ancT ops n (afs ops i)).contains j
def lsd (a b : Nat) : Array Bool := (List.replicate a true ++ List.replicate b false).toArray
theorem un_set' {n i : Nat} {listed : Array Bool} (hi : i < n) (hs : listed.size = n) (hu : listed.getD i true = false) : (un n (listed.setIfInBounds i true)).length + 1 = (un n listed).length := by
  have hm : i ∈ un n listed := List.mem_filter.2 ⟨List.mem_range.2 hi, by rw [hu]; rfl⟩
  have hnd : (un n listed).Nodup := List.nodup_range.filter _
  have e : un n (listed.setIfInBounds i true) = (un n listed).erase i := by
    rw [hnd.erase_eq_filter]
    unfold un
    rw [List.filter_filter]
    apply List.filter_congr
    intro j hj
    by_cases hji : j = i
    · subst hji
      simp [Array.getD_eq_getD_getElem?, Array.getElem?_setIfInBounds_self_of_lt (hs ▸ hi)]
    · rw [Array.getD_eq_getD_getElem?, Array.getD_eq_getD_getElem?, Array.getElem?_setIfInBounds_ne (fun e => hji e.symm)]
      simp [hji]
  rw [e, List.length_erase_of_mem hm]
  have : 0 < (un n listed).length := List.length_pos_of_mem hm
  omega
theorem blt_yes {a b : Nat} (h : a < b) : Nat.blt a b = true := by rw [Nat.blt_eq]; exact h
theorem blt_no {a b : Nat} (h : b ≤ a) : Nat.blt a b = false := Bool.eq_false_iff.2 (fun e => by rw [Nat.blt_eq] at e; omega)
theorem lsd_get {a b j : Nat} (hj : j < a + b) : (lsd a b).getD j true = Nat.blt j a := by
  unfold lsd
  rw [Array.getD_eq_getD_getElem?, List.getElem?_toArray]
  rcases Nat.lt_or_ge j a with h | h
  · rw [List.getElem?_append_left (by simpa using h), List.getElem?_replicate, if_pos h, blt_yes h]; rfl
  · rw [List.getElem?_append_right (by simpa using h), List.getElem?_replicate, List.length_replicate, if_pos (by omega)]
    rw [show Nat.blt j a = false from blt_no (by omega)]; rfl
theorem lsd_eq {a b : Nat} {L : Array Bool} (hs : L.size = a + b) (h : ∀ j, j < a + b → L.getD j true = Nat.blt j a) : L = lsd a b := by
  apply Array.ext
  · rw [hs]; unfold lsd; simp
  · intro i h1 h2
    have e1 := h i (by omega)
    have e2 := lsd_get (a := a) (b := b) (j := i) (by omega)
    rw [Array.getD_eq_getD_getElem?, Array.getElem?_eq_getElem h1] at e1
    rw [Array.getD_eq_getD_getElem?, Array.getElem?_eq_getElem h2] at e2
    exact (show L[i] = _ from e1).trans (show (lsd a b)[i] = _ from e2).symm
theorem un_lsd (a b : Nat) : (un (a + b) (lsd a b)).length = b := by
  unfold un
  have e : (List.range (a + b)).filter (fun j => !(lsd a b).getD j true) = (List.range b).map (a + ·) := by
    rw [List.range_add, List.filter_append]
    have e1 : (List.range a).filter (fun j => !(lsd a b).getD j true) = [] := List.filter_eq_nil_iff.2 fun j hj => by
      have hj := List.mem_range.1 hj
      rw [lsd_get (by omega), blt_yes hj]; simp
    have e2 : ((List.range b).map (a + ·)).filter (fun j => !(lsd a b).getD j true) = (List.range b).map (a + ·) := List.filter_eq_self.2 fun j hj => by
      obtain ⟨k, hk, rfl⟩ := List.mem_map.1 hj
      have hk := List.mem_range.1 hk
      rw [lsd_get (by omega), show Nat.blt (a + k) a = false from blt_no (by omega)]; rfl
    rw [e1, e2, List.nil_append]
  rw [e]; simp
section
variable {P : Program} {Q : Exit → Act → World → Prop} {s : St} {M : Hp}
theorem QL.anyT {l1 l2 : List Oper} {E0 : Env} (n : Nat) (hq : qOk (l1 ++ l2).toArray = true) (ht : tOk (l1 ++ l2).toArray l1.length n = true) (hE : ∀ i v, lk E0 i = some v → i < s.n)
    (h : QL P (l1 ++ l2).toArray (Exit.then (wpAnyIn (fen s.ro) 0 P .any (l1 ++ l2).toArray Q l2.length (lsd l1.length l2.length)) Q) l1 s E0 M) : N P (l1 ++ l2).toArray Q (l1 ++ l2).length (Array.replicate (l1 ++ l2).length false) s E0 M := by
  obtain ⟨vs, hvl, hfin, hstep⟩ := h.vals
  obtain ⟨l, hl⟩ : ∃ l, l = l1 ++ l2 := ⟨_, rfl⟩
  rw [← hl] at hq ht hfin hstep ⊢
  have hlen : l.length = l1.length + l2.length := by rw [hl, List.length_append]
  have hget : ∀ j, j < l1.length → l[j]? = l1[j]? := fun j hj => by rw [hl, List.getElem?_append_left hj]
  have hget1 : ∀ (j : Nat) (o : Oper), l1[j]? = some o → l[j]? = some o := fun j o hj => by rw [hget j (List.getElem?_eq_some_iff.1 hj).1]; exact hj
  have hq' : ∀ (i : Nat) (o : Oper), l[i]? = some o → plainOp o.op = true ∧ (∀ e ∈ o.after, Region.binds .any e = true → e.on < i) ∧
      (∀ x ∈ o.looksAt l.toArray, ∀ (j : Nat) (p : Oper), l[j]? = some p → p.dst = some x → ∃ e ∈ o.after, Region.binds .any e = true ∧ e.on = j) ∧ (∀ (j : Nat) (p : Oper), l[j]? = some p → j ≠ i → p.dst ≠ o.dst) := by
    intro i o hi
    unfold qOk at hq
    have hlt : i < l.length := (List.getElem?_eq_some_iff.1 hi).1
    have h1 := List.all_eq_true.1 hq i (by simpa using hlt)
    simp only [List.getElem?_toArray, hi, Bool.and_eq_true] at h1
    obtain ⟨⟨⟨⟨_, g1⟩, g2⟩, g3⟩, g4⟩ := h1
    refine ⟨g1, fun e he hb => ?_, fun x hx j p hj hp => ?_, fun j p hj hne => ?_⟩
    · have := Array.all_eq_true'.1 g2 e he
      simpa [hb, Nat.blt_eq] using this
    · have h2 := List.all_eq_true.1 (List.all_eq_true.1 g3 x hx) j (by simpa using (List.getElem?_eq_some_iff.1 hj).1)
      simp only [hj, hp, bne_self_eq_false, Bool.false_or] at h2
      obtain ⟨e, he, hb⟩ := Array.any_eq_true'.1 h2
      simp only [Bool.and_eq_true, beq_iff_eq] at hb
      exact ⟨e, he, hb.1, hb.2⟩
    · have h2 := List.all_eq_true.1 g4 j (by simpa using (List.getElem?_eq_some_iff.1 hj).1)
      simp only [hj, Bool.or_eq_true, beq_iff_eq, hne, false_or, bne_iff_ne] at h2
      exact h2
  have hdst : ∀ (i : Nat) (o : Oper) (v : Value), l1[i]? = some o → vs[i]? = some v → ∃ d, o.dst = some d ∧ d < s.n := fun i o v h1 h2 => by
    obtain ⟨d, g1, g2, _⟩ := hstep i o v h1 h2; exact ⟨d, g1, g2⟩
  have hval : ∀ (i : Nat) (o : Oper), l1[i]? = some o → ∃ v, vs[i]? = some v := fun i o hi => by
    have hlt : i < vs.length := by rw [hvl]; exact (List.getElem?_eq_some_iff.1 hi).1
    exact ⟨vs[i], List.getElem?_eq_getElem hlt⟩
  have hdif : ∀ (i : Nat) (j : Nat) (o : Oper) (p : Oper), l1[i]? = some o → l1[j]? = some p → j ≠ i → p.dst.getD 0 ≠ o.dst.getD 0 := by
    intro i j o p hi hj hne
    obtain ⟨v, hv⟩ := hval i o hi
    obtain ⟨u, hu⟩ := hval j p hj
    obtain ⟨d, hd, _⟩ := hdst i o v hi hv
    obtain ⟨e, he, _⟩ := hdst j p u hj hu
    have := (hq' i o (hget1 i o hi)).2.2.2 j p (hget1 j p hj) hne
    rw [hd, he] at this
    rw [hd, he]
    exact fun h => this (congrArg some h)
  have hafs : ∀ i j, j ∈ afs l.toArray i → ∃ o, l[i]? = some o ∧ ∃ e ∈ o.after, Region.binds .any e = true ∧ e.on = j := by
    intro i j hj
    unfold afs at hj
    simp only [List.getElem?_toArray] at hj
    cases ho : l[i]? with
    | none => rw [ho] at hj; cases hj
    | some o =>
      rw [ho] at hj
      obtain ⟨e, he, rfl⟩ := List.mem_map.1 hj
      obtain ⟨h1, h2⟩ := List.mem_filter.1 he
      exact ⟨o, rfl, e, by simpa using h1, h2, rfl⟩
  have main : ∀ (fuel : Nat) (listed : Array Bool) (a : Act) (w : World), listed.size = l.length → (un l.length listed).length = fuel → At s.w0 s.A M w → a.defers = s.dl → a.tmps.size = s.n →
      (∀ j, l1.length ≤ j → j < l.length → listed.getD j true = false) →
      (∀ i j, i < l.length → listed.getD i true = true → j ∈ afs l.toArray i → listed.getD j true = true) →
      (∀ x v, lk E0 x = some v → (∀ (j : Nat) (o : Oper), l1[j]? = some o → o.dst.getD 0 ≠ x) → a.tmps[x]? = some v) →
      (∀ (j : Nat) (o : Oper) (v : Value), l1[j]? = some o → vs[j]? = some v → listed.getD j true = true → a.tmps[o.dst.getD 0]? = some v) →
      wpAnyIn (fen s.ro) 0 P .any l.toArray Q fuel listed a w := by
    intro fuel
    have fin : ∀ (listed : Array Bool) (a : Act) (w : World), (∀ j, j < l1.length → listed.getD j true = true) → At s.w0 s.A M w → a.defers = s.dl → a.tmps.size = s.n →
      (∀ x v, lk E0 x = some v → (∀ (j : Nat) (o : Oper), l1[j]? = some o → o.dst.getD 0 ≠ x) → a.tmps[x]? = some v) →
      (∀ (j : Nat) (o : Oper) (v : Value), l1[j]? = some o → vs[j]? = some v → listed.getD j true = true → a.tmps[o.dst.getD 0]? = some v) → wpAnyIn (fen s.ro) 0 P .any l.toArray Q l2.length (lsd l1.length l2.length) a w := by
      intro listed a w hall hw hdl hsz hb hv
      refine hfin a w ⟨hw, hdl, hsz, fun x v hx => ?_⟩
      rcases lk_tEnv hvl.symm hx with ⟨j, o, h1, rfl, h3⟩ | ⟨h1, h2⟩
      · exact hv j o v h1 h3 (hall j (List.getElem?_eq_some_iff.1 h1).1)
      · exact hb x v h2 h1
    have finish : ∀ (fuel : Nat) (listed : Array Bool) (a : Act) (w : World), listed.size = l.length → (un l.length listed).length = fuel → (∀ j, l1.length ≤ j → j < l.length → listed.getD j true = false) → (∀ j, j < l1.length → listed.getD j true = true) → At s.w0 s.A M w → a.defers = s.dl → a.tmps.size = s.n →
      (∀ x v, lk E0 x = some v → (∀ (j : Nat) (o : Oper), l1[j]? = some o → o.dst.getD 0 ≠ x) → a.tmps[x]? = some v) →
      (∀ (j : Nat) (o : Oper) (v : Value), l1[j]? = some o → vs[j]? = some v → listed.getD j true = true → a.tmps[o.dst.getD 0]? = some v) → wpAnyIn (fen s.ro) 0 P .any l.toArray Q fuel listed a w := by
      intro fuel listed a w hsz hun htl hall hw hdl hts hb hv
      have e : listed = lsd l1.length l2.length := lsd_eq (by omega) (fun j hj => by
        rcases Nat.lt_or_ge j l1.length with h | h
        · rw [hall j h, blt_yes h]
        · rw [htl j h (by omega), show Nat.blt j l1.length = false from blt_no (by omega)])
      have hf : fuel = l2.length := by rw [← hun, e, hlen]; exact un_lsd _ _
      have := fin listed a w hall hw hdl hts hb hv
      rw [hf, e]; exact this
    have hready : ∀ (listed : Array Bool), listed.size = l.length → Region.ready .any l.toArray listed = [] → ∀ j, j < l.length → listed.getD j true = true := by
      intro listed hsz hr j
      induction j using Nat.strongRecOn with
      | _ j ih =>
        intro hj
        cases hl : listed.getD j true with
        | true => rfl
        | false =>
          exfalso
          have ho : l[j]? = some l[j] := List.getElem?_eq_getElem hj
          have : j ∈ Region.ready .any l.toArray listed := by
            unfold Region.ready
            refine List.mem_filter.2 ⟨by simpa using hj, ?_⟩
            simp only [hl, List.getElem?_toArray, ho, Option.map_some, Option.getD_some, Bool.not_false, Bool.true_and]
            refine Array.all_eq_true'.2 fun e he => ?_
            cases hb : Region.binds .any e with
            | false => rfl
            | true =>
              have hlt := (hq' j _ ho).2.1 e he hb
              have h2 := ih e.on hlt (by omega)
              rw [Array.getD_eq_getD_getElem?] at h2 ⊢
              rw [Array.getElem?_eq_getElem (by omega)] at h2 ⊢
              simpa using h2
          rw [hr] at this; cases this
    induction fuel with
    | zero =>
      intro listed a w hsz hun hw hdl hts htl hdc hb hv
      refine finish 0 listed a w hsz hun htl (fun j hj => ?_) hw hdl hts hb hv
      cases hl : listed.getD j true with
      | true => rfl
      | false =>
        have : j ∈ un l.length listed := List.mem_filter.2 ⟨List.mem_range.2 (by omega), by rw [hl]; rfl⟩
        have := List.length_pos_of_mem this
        omega
    | succ fuel ih =>
      intro listed a w hsz hun hw hdl hts htl hdc hb hv
      by_cases hall : ∀ j, j < l1.length → listed.getD j true = true
      · exact finish (fuel + 1) listed a w hsz hun htl hall hw hdl hts hb hv
      refine ⟨fun hr => absurd (fun j hj => hready listed hsz hr j (by omega)) hall, fun i hi => ?_⟩
      unfold Region.ready at hi
      obtain ⟨hir, hi⟩ := List.mem_filter.1 hi
      have hlt : i < l.length := by simpa using hir
      have ho : l[i]? = some l[i] := List.getElem?_eq_getElem hlt
      obtain ⟨o, hoe⟩ : ∃ (o : Oper), o = l[i] := ⟨_, rfl⟩
      rw [← hoe] at ho
      simp only [List.getElem?_toArray, ho, Option.map_some, Option.getD_some, Bool.and_eq_true, Bool.not_eq_true'] at hi
      obtain ⟨hun_i, hafter⟩ := hi
      obtain ⟨q1, q2, q3, q4⟩ := hq' i o ho
      have hdeps : ∀ e ∈ o.after, Region.binds .any e = true → listed.getD e.on true = true := by
        intro e he hbd
        have := Array.all_eq_true'.1 hafter e he
        simp only [hbd, Bool.not_true, Bool.false_or] at this
        have hlt2 := q2 e he hbd
        rw [Array.getD_eq_getD_getElem?] at this ⊢
        rw [Array.getElem?_eq_getElem (by omega)] at this ⊢
        simpa using this
      have hafl : ∀ j ∈ afs l.toArray i, listed.getD j true = true := by
        intro j hj
        obtain ⟨o', ho', e, he, hbd, rfl⟩ := hafs i j hj
        rw [ho] at ho'; cases ho'
        exact hdeps e he hbd
      -- an operation of the tail is not ready yet
      have hil : i < l1.length := by
        rcases Nat.lt_or_ge i l1.length with h | h
        · exact h
        · exfalso
          apply hall
          intro j hj
          unfold tOk at ht
          have h1 := List.all_eq_true.1 ht i (by simpa using hlt)
          rw [show Nat.blt i l1.length = false from blt_no (by omega), Bool.false_or] at h1
          have h2 := List.all_eq_true.1 h1 j (List.mem_range.2 hj)
          have hcl : ∀ (n : Nat) (S : List Nat), (∀ k ∈ S, k < l.length ∧ listed.getD k true = true) → ∀ k ∈ ancT l.toArray n S, k < l.length ∧ listed.getD k true = true := by
            intro n
            induction n with
            | zero => intro S hS; exact hS
            | succ n ihn =>
              intro S hS
              refine ihn _ (fun k hk => ?_)
              rcases List.mem_append.1 hk with hk | hk
              · exact hS k hk
              · obtain ⟨p, hp, hk⟩ := List.mem_flatMap.1 hk
                obtain ⟨g1, g2⟩ := hS p hp
                obtain ⟨o', ho', e, he, hbd, rfl⟩ := hafs p k hk
                have := (hq' p o' ho').2.1 e he hbd
                exact ⟨by omega, hdc p e.on g1 g2 hk⟩
          refine (hcl n (afs l.toArray i) (fun k hk => ?_) j (by simpa using h2)).2
          obtain ⟨o', ho', e, he, hbd, rfl⟩ := hafs i k hk
          have := (hq' i o' ho').2.1 e he hbd
          exact ⟨by omega, hafl _ hk⟩
      have ho1 : l1[i]? = some o := by rw [← hget i hil]; exact ho
      obtain ⟨v, hvi⟩ := hval i o ho1
      obtain ⟨d, hd, hdn, hL⟩ := hstep i o v ho1 hvi
      obtain ⟨Ei, hEi⟩ : ∃ Ei, Ei = tEnv (l1.take i) (vs.take i) E0 := ⟨_, rfl⟩
      rw [← hEi] at hL
      have htl' : (l1.take i).length = (vs.take i).length := by rw [List.length_take, List.length_take, hvl]
      have hlt_of : ∀ x u, lk Ei x = some u → x < s.n := by
        intro x u hx
        rw [hEi] at hx
        rcases lk_tEnv htl' hx with ⟨j, p, h1, rfl, h3⟩ | ⟨_, h2⟩
        · rw [List.getElem?_take] at h1 h3
          split at h1
          · rename_i hji
            rw [if_pos hji] at h3
            obtain ⟨e, he, hen⟩ := hdst j p u h1 h3
            rw [he]; exact hen
          · cases h1
        · exact hE x u h2
      obtain ⟨a', ha'⟩ : ∃ a' : Act, a' = { a with tmps := Array.ofFn (n := s.n) fun k => (lk Ei k.1).getD (a.tmps.getD k.1 undef) } := ⟨_, rfl⟩
      have ht' : ∀ x, x < s.n → a'.tmps[x]? = some ((lk Ei x).getD (a.tmps.getD x undef)) := by
        intro x hx
        rw [ha']
        simp [hx]
      have hsz' : a'.tmps.size = s.n := by rw [ha']; simp
      have hdl' : a'.defers = s.dl := by rw [ha']; exact hdl
      have hsat : Sat s Ei M a' w := ⟨hw, hdl', hsz', fun x u hx => by rw [ht' x (hlt_of x u hx), hx]; rfl⟩
      have hsame : ∀ x ∈ o.looksAt l.toArray, a.tmps[x]? = a'.tmps[x]? := by
        intro x hx
        rcases Nat.lt_or_ge x s.n with hxn | hxn
        · rw [ht' x hxn]
          cases hl : lk Ei x with
          | none =>
            rw [Array.getD_eq_getD_getElem?, Array.getElem?_eq_getElem (by omega)]; rfl
          | some u =>
            rw [hEi] at hl
            rcases lk_tEnv htl' hl with ⟨j, p, h1, hpx, h3⟩ | ⟨h1, h2⟩
            · rw [List.getElem?_take] at h1 h3
              split at h1
              · rename_i hji
                rw [if_pos hji] at h3
                obtain ⟨e, he, hen⟩ := hdst j p u h1 h3
                have hpx' : p.dst = some x := by rw [he] at hpx ⊢; simpa using hpx
                obtain ⟨ed, hed, hbd, rfl⟩ := q3 x hx j p (hget1 j p h1) hpx'
                have := hv ed.on p u h1 h3 (hdeps ed hed hbd)
                rw [hpx] at this; exact this
              · cases h1
            · refine hb x u h2 (fun j p hj e => ?_)
              obtain ⟨u', hu'⟩ := hval j p hj
              obtain ⟨e', he', _⟩ := hdst j p u' hj hu'
              have hpx' : p.dst = some x := by rw [he'] at e ⊢; simpa using e
              obtain ⟨ed, hed, hbd, rfl⟩ := q3 x hx j p (hget1 j p hj) hpx'
              have hlt2 := q2 ed hed hbd
              exact h1 ed.on p (by rw [List.getElem?_take, if_pos hlt2]; exact hj) e
        · rw [Array.getElem?_eq_none (by omega), Array.getElem?_eq_none (by omega)]
      refine wpOp_like (s := s) (M := M) (v := v) (by simpa using ho) q1 hd (by rw [hsz']; exact hdn) hdl' hsame (hL a' w hsat) (fun w' hw' => ?_)
      have hset : ∀ j, j ≠ i → (listed.setIfInBounds i true).getD j true = listed.getD j true := fun j hj => by
        rw [Array.getD_eq_getD_getElem?, Array.getElem?_setIfInBounds_ne (fun e => hj e.symm), Array.getD_eq_getD_getElem?]
      refine ih _ _ _ (by simpa using hsz) (by have := un_set' hlt hsz hun_i; omega) hw' hdl (by simpa [Act.put] using hts) (fun j hj hj2 => ?_) (fun p j hp hpl hj => ?_) (fun x u hx hn => ?_) (fun j p u hj hu hlj => ?_)
      · rw [hset j (by omega)]; exact htl j hj hj2
      · have hlj : listed.getD j true = true := by
          by_cases hpi : p = i
          · subst hpi; exact hafl j hj
          · rw [hset p hpi] at hpl; exact hdc p j hp hpl hj
        by_cases hji : j = i
        · subst hji; rw [hun_i] at hlj; cases hlj
        · rw [hset j hji]; exact hlj
      · have hne := hn i o ho1
        rw [hd] at hne
        simp only [Act.put]
        rw [Array.getElem?_setIfInBounds_ne (by simpa using hne)]
        exact hb x u hx hn
      · simp only [Act.put]
        by_cases hji : j = i
        · subst hji
          rw [ho1] at hj; cases hj
          rw [hvi] at hu; cases hu
          rw [hd]
          simp only [Option.getD_some]
          rw [Array.getElem?_setIfInBounds_self_of_lt (by rw [hts]; exact hdn)]
        · have hne := hdif i j o p ho1 hj hji
          rw [hd] at hne
          rw [Array.getElem?_setIfInBounds_ne (fun e => hne (by simpa using e.symm))]
          refine hv j p u hj hu ?_
          rw [hset j hji] at hlj; exact hlj
  intro a w hs
  have hno : ∀ j, j < l.length → (Array.replicate l.length false).getD j true = false := fun j hj => by simp [hj]
  refine main l.length _ a w (by simp) ?_ hs.at_ hs.defers hs.size (fun j _ hj => hno j hj) (fun i j hi hl => by rw [hno i hi] at hl; cases hl) (fun x v hx _ => hs.env x v hx) (fun j o v hj hv hl => ?_)
  · unfold un
    rw [List.filter_eq_self.2 (fun j hj => by rw [hno j (List.mem_range.1 hj)]; rfl)]; simp
  · have hlt : j < l1.length := (List.getElem?_eq_some_iff.1 hj).1
    rw [hno j (by omega)] at hl; cases hl
/-- A drawn region: its first m operations turn nothing of one's own; the others come behind them in every order. -/
theorem C.quietT {E : Env} {id : Nat} {l : List Oper} (m n : Nat) (hm : P.follows .mixedOrders = true := by kernel_rfl) (hq : qOk l.toArray = true := by decide +kernel) (ht : tOk l.toArray m n = true := by decide +kernel) (hml : Nat.ble m l.length = true := by decide +kernel)
    (h : QL P l.toArray (Exit.then (wpAnyIn (fen s.ro) 0 P .any l.toArray Q (l.length - m) (lsd m (l.length - m))) Q) (l.take m) s E M) : C P (.region id l.toArray true) Q s E M := by
  intro a w hs
  have hE : ∀ i v, lk E i = some v → i < s.n := fun i v h => by rw [← hs.size]; exact (Array.getElem?_eq_some_iff.1 (hs.env i v h)).1
  have hml' := Nat.le_of_ble_eq_true hml
  obtain ⟨l1, h1⟩ : ∃ l1, l1 = l.take m := ⟨_, rfl⟩
  obtain ⟨l2, h2⟩ : ∃ l2, l2 = l.drop m := ⟨_, rfl⟩
  have hl : l = l1 ++ l2 := by rw [h1, h2, List.take_append_drop]
  have e1 : l1.length = m := by rw [h1, List.length_take]; omega
  have e2 : l2.length = l.length - m := by rw [h2, List.length_drop]
  rw [← h1, ← e2, ← e1, hl] at h
  rw [hl] at hq
  rw [hl, ← e1] at ht
  rw [hl]
  exact C.draw hm (QL.anyT n hq ht hE h) a w hs
end
end Go.Proofs.YtpemoeincepilaaDoor.SL
