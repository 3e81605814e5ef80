/- Several texts, one behind the other. -/
import Derived.Test.YtbcaelhchmoigaaSepP
import Derived.Laws.MakeOwn
import Derived.ScopeJumps
import Derived.Laws.CopyRow
set_option linter.unusedVariables false
set_option linter.unusedSimpArgs false
namespace Go.Proofs.Ytbcaelhchmoigaa.SL
open Go Go.RowKit
section
variable {P : Program} {ops : Array Oper} {Q : Exit → Act → World → Prop} {s : St} {E : Env} {M : Hp}
def EndsG (s : St) (E : Env) (M : Hp) (d : Nat) (v : Value) : Exit → Act → World → Prop := fun e a w => e = .normal ∧ Sat s ((d, v) :: E) M a w
end
end Go.Proofs.Ytbcaelhchmoigaa.SL
namespace Go.Proofs.Ytbcaelhchmoigaa.SL
open Go Go.RowKit
section
variable {P : Program} {ops : Array Oper} {Q : Exit → Act → World → Prop} {s : St} {E : Env} {M : Hp} {rest : List Oper} {d t : Nat} {pos : String} {af : Array Edge}
def blA (n : Nat) : List Value → List (Nat × Value) → Option (List Value)
  | l, [] => some l
  | l, (i, v) :: r => match Nat.beq (cl v).length n, Nat.ble (i * n + n) l.length with
    | true, true => blA n (setL l (i * n) (cl v)) r
    | _, _ => none
end
end Go.Proofs.Ytbcaelhchmoigaa.SL
namespace Go.Proofs.Ytbcaelhchmoigaa.SL
open Go Go.RowKit
section
variable {P : Program} {ops : Array Oper} {Q : Exit → Act → World → Prop} {s : St} {E : Env} {M : Hp} {rest : List Oper} {d t : Nat} {pos : String} {af : Array Edge}
end
end Go.Proofs.Ytbcaelhchmoigaa.SL
namespace Go.Proofs.Ytbcaelhchmoigaa.SL
open Go Go.RowKit
section
variable {P : Program} {ops : Array Oper} {Q : Exit → Act → World → Prop} {s : St} {E : Env} {M : Hp} {rest : List Oper} {d t : Nat} {pos : String} {af : Array Edge}
end
end Go.Proofs.Ytbcaelhchmoigaa.SL
namespace Go.Proofs.Ytbcaelhchmoigaa.SL
open Go Go.RowKit
def qOkA (ops : Array Oper) : Bool := (List.range ops.size).all fun i => match ops[i]? with
  | none => false
  | some o => o.dst.isSome && plainOp o.op && o.after.all (fun e => !Region.binds .any e || Nat.blt e.on i) &&
    (o.looksAt ops).all (fun x => (List.range ops.size).all fun j => match ops[j]? with
      | some p => p.dst != some x || ((o.after.any fun e => Region.binds .any e && e.on == j) || j == i || (Nat.blt i j && (ancs ops ops.size (edgesOf p)).contains i))
      | none => true) &&
    (List.range ops.size).all (fun j => j == i || match ops[j]? with
      | some p => p.dst != o.dst
      | none => true)
section
variable {P : Program} {ops : Array Oper} {Q : Exit → Act → World → Prop} {s : St} {E : Env} {M : Hp}
theorem QL.anyA {l : List Oper} {E0 : Env} (hq : qOkA l.toArray = true) (hE : ∀ i v, lk E0 i = some v → i < s.n) (h : QL P l.toArray Q l s E0 M) : N P l.toArray Q l.length (Array.replicate l.length false) s E0 M := by
  obtain ⟨vs, hvl, hfin, hstep⟩ := h.vals
  have hq' : ∀ (i : Nat) (o : Oper), l[i]? = some o → plainOp o.op = true ∧ (∀ e ∈ o.after, Region.binds .any e = true → e.on < i) ∧
      (∀ x ∈ o.looksAt l.toArray, ∀ (j : Nat) (p : Oper), l[j]? = some p → p.dst = some x → (∃ e ∈ o.after, Region.binds .any e = true ∧ e.on = j) ∨ j = i ∨ (i < j ∧ i ∈ ancs l.toArray l.length (edgesOf p))) ∧ (∀ (j : Nat) (p : Oper), l[j]? = some p → j ≠ i → p.dst ≠ o.dst) := by
    intro i o hi
    unfold qOkA at hq
    have hlt : i < l.length := (List.getElem?_eq_some_iff.1 hi).1
    have h1 := List.all_eq_true.1 hq i (by simpa using hlt)
    simp only [List.getElem?_toArray, hi, Bool.and_eq_true] at h1
    obtain ⟨⟨⟨⟨_, g1⟩, g2⟩, g3⟩, g4⟩ := h1
    refine ⟨g1, fun e he hb => ?_, fun x hx j p hj hp => ?_, fun j p hj hne => ?_⟩
    · have := Array.all_eq_true'.1 g2 e he
      simpa [hb, Nat.blt_eq] using this
    · have h2 := List.all_eq_true.1 (List.all_eq_true.1 g3 x hx) j (by simpa using (List.getElem?_eq_some_iff.1 hj).1)
      simp only [hj, hp, bne_self_eq_false, Bool.false_or, Bool.or_eq_true] at h2
      rcases h2 with (h2 | h2) | h2
      · obtain ⟨e, he, hb⟩ := Array.any_eq_true'.1 h2
        simp only [Bool.and_eq_true, beq_iff_eq] at hb
        exact .inl ⟨e, he, hb.1, hb.2⟩
      · exact .inr (.inl (by simpa using h2))
      · rw [Bool.and_eq_true] at h2
        exact .inr (.inr ⟨by simpa [Nat.blt_eq] using h2.1, by simpa using h2.2⟩)
    · have h2 := List.all_eq_true.1 g4 j (by simpa using (List.getElem?_eq_some_iff.1 hj).1)
      simp only [hj, Bool.or_eq_true, beq_iff_eq, hne, false_or, bne_iff_ne] at h2
      exact h2
  have hdst : ∀ (i : Nat) (o : Oper) (v : Value), l[i]? = some o → vs[i]? = some v → ∃ d, o.dst = some d ∧ d < s.n := fun i o v h1 h2 => by
    obtain ⟨d, g1, g2, _⟩ := hstep i o v h1 h2; exact ⟨d, g1, g2⟩
  have hval : ∀ (i : Nat) (o : Oper), l[i]? = some o → ∃ v, vs[i]? = some v := fun i o hi => by
    have hlt : i < vs.length := by rw [hvl]; exact (List.getElem?_eq_some_iff.1 hi).1
    exact ⟨vs[i], List.getElem?_eq_getElem hlt⟩
  -- different operations have different slots
  have hdif : ∀ (i : Nat) (j : Nat) (o : Oper) (p : Oper), l[i]? = some o → l[j]? = some p → j ≠ i → p.dst.getD 0 ≠ o.dst.getD 0 := by
    intro i j o p hi hj hne
    obtain ⟨v, hv⟩ := hval i o hi
    obtain ⟨u, hu⟩ := hval j p hj
    obtain ⟨d, hd, _⟩ := hdst i o v hi hv
    obtain ⟨e, he, _⟩ := hdst j p u hj hu
    have := (hq' i o hi).2.2.2 j p hj hne
    rw [hd, he] at this
    rw [hd, he]
    exact fun h => this (congrArg some h)
  have main : ∀ (fuel : Nat) (listed : Array Bool) (a : Act) (w : World), listed.size = l.length → (un l.length listed).length ≤ fuel → At s.w0 s.A M w → a.defers = s.dl → a.tmps.size = s.n →
      (∀ x v, lk E0 x = some v → (∀ (j : Nat) (o : Oper), l[j]? = some o → o.dst.getD 0 = x → listed.getD j true = false) → a.tmps[x]? = some v) →
      (∀ (j : Nat) (o : Oper) (v : Value), l[j]? = some o → vs[j]? = some v → listed.getD j true = true → a.tmps[o.dst.getD 0]? = some v) → (∀ (j : Nat) (o : Oper), l[j]? = some o → listed.getD j true = true → ∀ e ∈ edgesOf o, listed.getD e true = true) →
      wpAnyIn (fen s.ro) 0 P .any l.toArray Q fuel listed a w := by
    intro fuel
    have fin : ∀ (listed : Array Bool) (a : Act) (w : World), (∀ j, j < l.length → listed.getD j true = true) → At s.w0 s.A M w → a.defers = s.dl → a.tmps.size = s.n →
      (∀ x v, lk E0 x = some v → (∀ (j : Nat) (o : Oper), l[j]? = some o → o.dst.getD 0 = x → listed.getD j true = false) → a.tmps[x]? = some v) →
      (∀ (j : Nat) (o : Oper) (v : Value), l[j]? = some o → vs[j]? = some v → listed.getD j true = true → a.tmps[o.dst.getD 0]? = some v) → Q .normal a w := by
      intro listed a w hall hw hdl hsz hb hv
      refine hfin a w ⟨hw, hdl, hsz, fun x v hx => ?_⟩
      rcases lk_tEnv hvl.symm hx with ⟨j, o, h1, rfl, h3⟩ | ⟨h1, h2⟩
      · exact hv j o v h1 h3 (hall j (List.getElem?_eq_some_iff.1 h1).1)
      · exact hb x v h2 (fun j o hj e => absurd e (h1 j o hj))
    have hready : ∀ (listed : Array Bool), listed.size = l.length → Region.ready .any l.toArray listed = [] → ∀ j, j < l.length → listed.getD j true = true := by
      intro listed hsz hr j
      induction j using Nat.strongRecOn with
      | _ j ih =>
        intro hj
        cases hl : listed.getD j true with
        | true => rfl
        | false =>
          exfalso
          have ho : l[j]? = some l[j] := List.getElem?_eq_getElem hj
          have : j ∈ Region.ready .any l.toArray listed := by
            unfold Region.ready
            refine List.mem_filter.2 ⟨by simpa using hj, ?_⟩
            simp only [hl, List.getElem?_toArray, ho, Option.map_some, Option.getD_some, Bool.not_false, Bool.true_and]
            refine Array.all_eq_true'.2 fun e he => ?_
            cases hb : Region.binds .any e with
            | false => rfl
            | true =>
              have hlt := (hq' j _ ho).2.1 e he hb
              have h2 := ih e.on hlt (by omega)
              rw [Array.getD_eq_getD_getElem?] at h2 ⊢
              rw [Array.getElem?_eq_getElem (by omega)] at h2 ⊢
              simpa using h2
          rw [hr] at this; cases this
    induction fuel with
    | zero =>
      intro listed a w hsz hun hw hdl hts hb hv hcl
      have hall : ∀ j, j < l.length → listed.getD j true = true := by
        intro j hj
        cases hl : listed.getD j true with
        | true => rfl
        | false =>
          have : j ∈ un l.length listed := List.mem_filter.2 ⟨List.mem_range.2 hj, by rw [hl]; rfl⟩
          have := List.length_pos_of_mem this
          omega
      refine ⟨?_, fin listed a w hall hw hdl hts hb hv⟩
      unfold Region.ready
      refine List.filter_eq_nil_iff.2 fun j hj => ?_
      rw [hall j (by simpa using hj)]; simp
    | succ fuel ih =>
      intro listed a w hsz hun hw hdl hts hb hv hcl
      refine ⟨fun hr => fin listed a w (hready listed hsz hr) hw hdl hts hb hv, fun i hi => ?_⟩
      unfold Region.ready at hi
      obtain ⟨hir, hi⟩ := List.mem_filter.1 hi
      have hlt : i < l.length := by simpa using hir
      have ho : l[i]? = some l[i] := List.getElem?_eq_getElem hlt
      obtain ⟨o, hoe⟩ : ∃ (o : Oper), o = l[i] := ⟨_, rfl⟩
      rw [← hoe] at ho
      simp only [List.getElem?_toArray, ho, Option.map_some, Option.getD_some, Bool.and_eq_true, Bool.not_eq_true'] at hi
      obtain ⟨hun_i, hafter⟩ := hi
      obtain ⟨v, hvi⟩ := hval i o ho
      obtain ⟨d, hd, hdn, hL⟩ := hstep i o v ho hvi
      obtain ⟨q1, q2, q3, q4⟩ := hq' i o ho
      have hdeps : ∀ e ∈ o.after, Region.binds .any e = true → listed.getD e.on true = true := by
        intro e he hbd
        have := Array.all_eq_true'.1 hafter e he
        simp only [hbd, Bool.not_true, Bool.false_or] at this
        have hlt2 := q2 e he hbd
        rw [Array.getD_eq_getD_getElem?] at this ⊢
        rw [Array.getElem?_eq_getElem (by omega)] at this ⊢
        simpa using this
      -- where the text's order would stand
      obtain ⟨Ei, hEi⟩ : ∃ Ei, Ei = tEnv (l.take i) (vs.take i) E0 := ⟨_, rfl⟩
      rw [← hEi] at hL
      have htl : (l.take i).length = (vs.take i).length := by rw [List.length_take, List.length_take, hvl]
      have hlt_of : ∀ x u, lk Ei x = some u → x < s.n := by
        intro x u hx
        rw [hEi] at hx
        rcases lk_tEnv htl hx with ⟨j, p, h1, rfl, h3⟩ | ⟨_, h2⟩
        · rw [List.getElem?_take] at h1 h3
          split at h1
          · rename_i hji
            rw [if_pos hji] at h3
            obtain ⟨e, he, hen⟩ := hdst j p u h1 h3
            rw [he]; exact hen
          · cases h1
        · exact hE x u h2
      obtain ⟨a', ha'⟩ : ∃ a' : Act, a' = { a with tmps := Array.ofFn (n := s.n) fun k => (lk Ei k.1).getD (a.tmps.getD k.1 undef) } := ⟨_, rfl⟩
      have ht' : ∀ x, x < s.n → a'.tmps[x]? = some ((lk Ei x).getD (a.tmps.getD x undef)) := by
        intro x hx
        rw [ha']
        simp [hx]
      have hsz' : a'.tmps.size = s.n := by rw [ha']; simp
      have hdl' : a'.defers = s.dl := by rw [ha']; exact hdl
      have hsat : Sat s Ei M a' w := ⟨hw, hdl', hsz', fun x u hx => by rw [ht' x (hlt_of x u hx), hx]; rfl⟩
      have hsame : ∀ x ∈ o.looksAt l.toArray, a.tmps[x]? = a'.tmps[x]? := by
        intro x hx
        rcases Nat.lt_or_ge x s.n with hxn | hxn
        · rw [ht' x hxn]
          cases hl : lk Ei x with
          | none =>
            rw [Array.getD_eq_getD_getElem?, Array.getElem?_eq_getElem (by omega)]; rfl
          | some u =>
            rw [hEi] at hl
            rcases lk_tEnv htl hl with ⟨j, p, h1, hpx, h3⟩ | ⟨h1, h2⟩
            · rw [List.getElem?_take] at h1 h3
              split at h1
              · rename_i hji
                rw [if_pos hji] at h3
                obtain ⟨e, he, hen⟩ := hdst j p u h1 h3
                have hpx' : p.dst = some x := by rw [he] at hpx ⊢; simpa using hpx
                rcases q3 x hx j p h1 hpx' with ⟨ed, hed, hbd, rfl⟩ | h4 | ⟨h4, _⟩
                · have := hv ed.on p u h1 h3 (hdeps ed hed hbd)
                  rw [hpx] at this; exact this
                · omega
                · omega
              · cases h1
            · refine hb x u h2 (fun j p hj e => ?_)
              obtain ⟨u', hu'⟩ := hval j p hj
              obtain ⟨e', he', _⟩ := hdst j p u' hj hu'
              have hpx' : p.dst = some x := by rw [he'] at e ⊢; simpa using e
              rcases q3 x hx j p hj hpx' with ⟨ed, hed, hbd, rfl⟩ | h4 | ⟨h4, h5⟩
              · have hlt2 := q2 ed hed hbd
                exact absurd e (h1 ed.on p (by rw [List.getElem?_take, if_pos hlt2]; exact hj))
              · subst h4; exact hun_i
              · cases hlj : listed.getD j true with
                | false => rfl
                | true =>
                  exfalso
                  have := ancs_all (ops := l.toArray) (p := fun k => listed.getD k true = true) (fun k q hk hp y hy => hcl k q (by simpa using hk) hp y hy) l.length (edgesOf p) (fun y hy => hcl j p hj hlj y hy) i h5
                  rw [this] at hun_i; cases hun_i
        · rw [Array.getElem?_eq_none (by omega), Array.getElem?_eq_none (by omega)]
      refine wpOp_like (s := s) (M := M) (v := v) (by simpa using ho) q1 hd (by rw [hsz']; exact hdn) hdl' hsame (hL a' w hsat) (fun w' hw' => ?_)
      refine ih _ _ _ (by simpa using hsz) (by have := un_set hlt hsz hun_i; omega) hw' hdl (by simpa [Act.put] using hts) (fun x u hx hn => ?_) (fun j p u hj hu hlj => ?_) (fun j p hj hlj e he => ?_)
      · have hne : o.dst.getD 0 ≠ x := fun e => by
          have h4 := hn i o ho e
          rw [Array.getD_eq_getD_getElem?, Array.getElem?_setIfInBounds_self_of_lt (by omega)] at h4
          cases h4
        rw [hd] at hne
        simp only [Act.put]
        rw [Array.getElem?_setIfInBounds_ne (by simpa using hne)]
        refine hb x u hx (fun j p hj e => ?_)
        have h4 := hn j p hj e
        by_cases hji : j = i
        · rw [hji]; exact hun_i
        · rw [Array.getD_eq_getD_getElem?, Array.getElem?_setIfInBounds_ne (fun e => hji e.symm)] at h4
          rw [Array.getD_eq_getD_getElem?]; exact h4
      · simp only [Act.put]
        by_cases hji : j = i
        · subst hji
          rw [ho] at hj; cases hj
          rw [hvi] at hu; cases hu
          rw [hd]
          simp only [Option.getD_some]
          rw [Array.getElem?_setIfInBounds_self_of_lt (by rw [hts]; exact hdn)]
        · have hne := hdif i j o p ho hj hji
          rw [hd] at hne
          rw [Array.getElem?_setIfInBounds_ne (fun e => hne (by simpa using e.symm))]
          refine hv j p u hj hu ?_
          rw [Array.getD_eq_getD_getElem?, Array.getElem?_setIfInBounds_ne (fun e => hji e.symm)] at hlj
          rw [Array.getD_eq_getD_getElem?]; exact hlj
      · have hmono : ∀ k, listed.getD k true = true → (listed.setIfInBounds i true).getD k true = true := fun k hk => by
          by_cases hki : k = i
          · subst hki; rw [Array.getD_eq_getD_getElem?, Array.getElem?_setIfInBounds_self_of_lt (by omega)]; rfl
          · rw [Array.getD_eq_getD_getElem?, Array.getElem?_setIfInBounds_ne (fun e => hki e.symm), ← Array.getD_eq_getD_getElem?]; exact hk
        by_cases hji : j = i
        · subst hji
          rw [ho] at hj; cases hj
          unfold edgesOf at he
          obtain ⟨e', he', rfl⟩ := List.mem_map.1 he
          obtain ⟨h5, h6⟩ := List.mem_filter.1 he'
          exact hmono _ (hdeps e' (Array.mem_toList_iff.1 h5) h6)
        · rw [Array.getD_eq_getD_getElem?, Array.getElem?_setIfInBounds_ne (fun e => hji e.symm), ← Array.getD_eq_getD_getElem?] at hlj
          exact hmono _ (hcl j p hj hlj e he)
  intro a w hs
  refine main l.length _ a w (by simp) (by unfold un; exact Nat.le_trans (List.length_filter_le _ _) (by simp)) hs.at_ hs.defers hs.size (fun x v hx _ => hs.env x v hx) (fun j o v hj hv hl => ?_) (fun j o hj hl => ?_)
  · have hlt : j < l.length := (List.getElem?_eq_some_iff.1 hj).1
    simp [hlt] at hl
  · have hlt : j < l.length := (List.getElem?_eq_some_iff.1 hj).1
    simp [hlt] at hl
/-- A drawn region that turns nothing of one's own, in the text's order; a slot that is known ahead may be turned, behind those who read it. -/
theorem C.quietA {id : Nat} {l : List Oper} (hm : P.follows .mixedOrders = true := by kernel_rfl) (hq : qOkA l.toArray = true := by decide +kernel) (h : QL P l.toArray Q l s E M) : C P (.region id l.toArray true) Q s E M := by
  intro a w hs
  have hE : ∀ i v, lk E i = some v → i < s.n := fun i v h => by rw [← hs.size]; exact (Array.getElem?_eq_some_iff.1 (hs.env i v h)).1
  exact C.draw hm (QL.anyA hq hE h) a w hs
end
end Go.Proofs.Ytbcaelhchmoigaa.SL
namespace Go.Proofs.Ytbcaelhchmoigaa.SL
open Go Go.RowKit
def osSet : OS → Nat → Value → OS
  | none, _, _ => none
  | some (b, l, cap), k, v => some (b, l.set k v, cap)
def osSetL : OS → Nat → List Value → OS
  | none, _, _ => none
  | some (b, l, cap), k, vs => some (b, setL l k vs, cap)
section
variable {P : Program} {ops : Array Oper} {Q : Exit → Act → World → Prop} {s : St} {E : Env} {M M0 : Hp} {rest : List Oper} {acc : List Pl} {d t : Nat} {pos : String} {af : Array Edge}
end
end Go.Proofs.Ytbcaelhchmoigaa.SL
namespace Go
section
variable {F : Fence} {n : Nat} {P : Program} {Q : Exit → Act → World → Prop} {a : Act} {w : World} {b : Frame} {k : List Item} {cs : List Frame}
end
end Go
namespace Go.Proofs.Ytbcaelhchmoigaa.SL
open Go Go.RowKit
section
variable {P : Program} {Q : Exit → Act → World → Prop} {s : St} {E : Env} {M : Hp} {x y c : Code}
end
section
variable {P : Program} {ops : Array Oper} {Q : Exit → Act → World → Prop} {s : St} {E : Env} {M : Hp} {rest : List Oper} {d t : Nat} {pos : String} {af : Array Edge}
end
end Go.Proofs.Ytbcaelhchmoigaa.SL
namespace Go.Proofs.Ytbcaelhchmoigaa.SL
open Go Go.RowKit
section
variable {P : Program} {ops : Array Oper} {Q : Exit → Act → World → Prop} {s : St} {E : Env} {M : Hp} {rest : List Oper} {d t : Nat} {pos : String} {af : Array Edge}
end
end Go.Proofs.Ytbcaelhchmoigaa.SL
