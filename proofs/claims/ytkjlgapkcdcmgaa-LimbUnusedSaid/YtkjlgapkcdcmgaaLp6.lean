/- LimbUnused, plain: registers by other names; a register that nothing takes. -/
import Derived.Test.YtkjlgapkcdcmgaaLp5
set_option linter.unusedVariables false
set_option linter.unusedSimpArgs false
namespace Go.Proofs.Ytkjlgapkcdcmgaa
open Go Go.RowKit SL

/-- Registers told by other names. -/
structure Rn (f : Int → Int) (regs regs' : Int) : Prop where
  n1 : f (-1) = -1
  rg : ∀ r, 0 ≤ r → r < regs → 0 ≤ f r ∧ f r < regs'
  inj : ∀ r s, 0 ≤ r → r < regs → 0 ≤ s → s < regs → f r = f s → r = s
def rnO (f : Int → Int) (o : Lop) : Lop := ⟨o.k, f o.d, f o.e, f o.a, f o.b, f o.c, o.buf, o.imm⟩
def InR (regs r : Int) : Prop := r = -1 ∨ (0 ≤ r ∧ r < regs)
theorem fieldM_in {regs r : Int} {b : Bool} (h : fieldM regs r b = true) : InR regs r ∧ (b = true → 0 ≤ r ∧ r < regs) := by
  unfold fieldM at h
  cases b with
  | false => simp [cm] at h; exact ⟨.inl h, fun h => by cases h⟩
  | true => simp [cm] at h; exact ⟨.inr h, fun _ => h⟩
theorem fieldM_rn {f : Int → Int} {regs regs' r : Int} {b : Bool} (H : Rn f regs regs') (h : fieldM regs r b = true) : fieldM regs' (f r) b = true := by
  unfold fieldM at h ⊢
  cases b with
  | false => simp [cm] at h ⊢; rw [h]; exact H.n1
  | true => simp [cm] at h ⊢; exact H.rg r h.1 h.2
/-- The fields of an operation that may be. -/
theorem rf_in {regs : Int} {bs : List Bf} {o : Lop} (h : rfields regs bs o = true) : InR regs o.d ∧ InR regs o.e ∧ InR regs o.a ∧ InR regs o.b ∧ InR regs o.c := by
  obtain ⟨_, h⟩ := rf_bad h
  unfold rbad at h
  simp only [Bool.or_eq_false_iff, Bool.not_eq_false'] at h
  obtain ⟨⟨⟨⟨⟨h1, h2⟩, h3⟩, h4⟩, h5⟩, h6⟩ := h
  refine ⟨(fieldM_in h1).1, (fieldM_in h2).1, ?_, (fieldM_in h4).1, (fieldM_in h5).1⟩
  rw [Bool.and_eq_false_iff] at h3
  rcases h3 with h3 | h3
  · simp only [Bool.not_eq_false'] at h3; exact (fieldM_in h3).1
  · simp only [Bool.not_eq_false', Bool.and_eq_true] at h3
    exact .inl (cm_yes' h3.2)
theorem Rn.neg {f : Int → Int} {regs regs' r : Int} (H : Rn f regs regs') (h : InR regs r) : cm .neq (f r) (-1) = cm .neq r (-1) := by
  rcases h with rfl | h
  · rw [H.n1]
  · have := (H.rg r h.1 h.2).1
    rw [cm_ne (by omega), cm_ne (by omega)]
theorem Rn.eqn {f : Int → Int} {regs regs' r : Int} (H : Rn f regs regs') (h : InR regs r) : cm .eql (f r) (-1) = cm .eql r (-1) := by
  rcases h with rfl | h
  · rw [H.n1]
  · have := (H.rg r h.1 h.2).1
    rw [cm_no (by omega), cm_no (by omega)]
theorem Rn.ge {f : Int → Int} {regs regs' r : Int} (H : Rn f regs regs') (h : InR regs r) : cm .geq (f r) 0 = cm .geq r 0 := by
  rcases h with rfl | h
  · rw [H.n1]
  · have := (H.rg r h.1 h.2).1
    rw [cm_ge (by omega), cm_ge (by omega)]
theorem rf_rn {f : Int → Int} {regs regs' : Int} {bs : List Bf} {o : Lop} (H : Rn f regs regs') (h : rfields regs bs o = true) : rfields regs' bs (rnO f o) = true := by
  obtain ⟨g1, g2⟩ := rf_bad h
  obtain ⟨i1, i2, i3, i4, i5⟩ := rf_in h
  have g3 : rbad regs' (rnO f o) = false := by
    unfold rbad at g2 ⊢
    simp only [Bool.or_eq_false_iff, Bool.not_eq_false'] at g2 ⊢
    obtain ⟨⟨⟨⟨⟨h1, h2⟩, h3⟩, h4⟩, h5⟩, h6⟩ := g2
    refine ⟨⟨⟨⟨⟨fieldM_rn H h1, fieldM_rn H h2⟩, ?_⟩, fieldM_rn H h4⟩, fieldM_rn H h5⟩, ?_⟩
    · rw [Bool.and_eq_false_iff] at h3 ⊢
      rcases h3 with h3 | h3
      · left
        simp only [Bool.not_eq_false'] at h3 ⊢
        exact fieldM_rn H h3
      · right
        simp only [Bool.not_eq_false', Bool.and_eq_true] at h3 ⊢
        exact ⟨h3.1, by show cm .eql (f o.a) (-1) = true; rw [H.eqn i3]; exact h3.2⟩
    · rw [Bool.and_eq_false_iff] at h6 ⊢
      rcases h6 with h6 | h6
      · exact .inl h6
      · cases hE : hasE o with
        | false => exact .inl hE
        | true =>
          right
          have e2 := (fieldM_in h2).2 hE
          have e1 := (fieldM_in h1).2 (by
            have : o.k = 10 ∨ o.k = 11 ∨ o.k = 12 := by simp [hasE, cm] at hE; omega
            rcases this with h | h | h <;> simp [cm, h])
          have hne : o.d ≠ o.e := fun e => by rw [cm_yes e] at h6; cases h6
          exact cm_no (fun e => hne (H.inj _ _ e1.1 e1.2 e2.1 e2.2 e))
  unfold rfields at h ⊢
  rw [if_neg (ne_true_of_eq_false g1), if_neg (ne_true_of_eq_false g2)] at h
  have g4 : (cm .lss (rnO f o).k 1 || cm .gtr (rnO f o).k 17) = false := g1
  rw [if_neg (ne_true_of_eq_false g4), if_neg (ne_true_of_eq_false g3)]
  have g5 : cm .neq (rnO f o).a (-1) = cm .neq o.a (-1) := H.neg i3
  rw [g5]
  exact h
theorem makes_rn (f : Int → Int) (o : Lop) : makesM (rnO f o) = (makesM o).map f := by
  unfold makesM rnO
  simp only
  split
  · rfl
  · split <;> rfl
theorem takes_rn {f : Int → Int} {regs regs' : Int} {bs : List Bf} {o : Lop} (H : Rn f regs regs') (h : rfields regs bs o = true) : takesM (rnO f o) = (takesM o).map f := by
  have g5 : cm .neq (f o.a) (-1) = cm .neq o.a (-1) := H.neg (rf_in h).2.2.1
  unfold takesM rnO
  simp only [g5]
  split
  · rfl
  · split
    · rfl
    · split
      · rfl
      · split
        · rfl
        · split
          · rfl
          · split <;> rfl
theorem mdR_set {l : List Bool} {r q : Int} {b : Bool} (hr : 0 ≤ r) (hq : 0 ≤ q) (hl : r.toNat < l.length) : mdAt (l.set r.toNat b) q = if q = r then b else mdAt l q := by
  unfold mdAt
  rw [List.getElem?_set]
  by_cases e : q = r
  · subst e
    rw [if_pos rfl, if_pos hl, if_pos rfl]; rfl
  · rw [if_neg (by omega), if_neg e]
/-- Checkers that agree. -/
structure CkR (f : Int → Int) (regs regs' : Int) (c d : Ck) : Prop where
  lp : d.loops = c.loops.map f
  lr : ∀ r ∈ c.loops, 0 ≤ r ∧ r < regs
  ml : c.made.length = regs.toNat
  dl : d.made.length = regs'.toNat
  md : ∀ r, 0 ≤ r → r < regs → mdAt d.made (f r) = mdAt c.made r
theorem mdR_setK {f : Int → Int} {regs regs' : Int} (H : Rn f regs regs') {l m : List Bool} {b : Bool} {k : Int} (h0 : 0 ≤ k) (h1 : k < regs) (hl : l.length = regs.toNat) (hm : m.length = regs'.toNat)
    (h : ∀ r, 0 ≤ r → r < regs → mdAt m (f r) = mdAt l r) : ∀ r, 0 ≤ r → r < regs → mdAt (m.set (f k).toNat b) (f r) = mdAt (l.set k.toNat b) r := by
  intro r r0 r1
  have hk := H.rg k h0 h1
  have hr := H.rg r r0 r1
  rw [mdR_set hk.1 hr.1 (by omega), mdR_set h0 r0 (by omega)]
  by_cases e : r = k
  · rw [if_pos e, if_pos (by rw [e])]
  · rw [if_neg e, if_neg (fun e2 => e (H.inj _ _ r0 r1 h0 h1 e2))]
    exact h r r0 r1
theorem mdR_setAll {f : Int → Int} {regs regs' : Int} (H : Rn f regs regs') : ∀ (rs : List Int) (l m : List Bool), (∀ r ∈ rs, 0 ≤ r ∧ r < regs) → l.length = regs.toNat → m.length = regs'.toNat →
    (∀ r, 0 ≤ r → r < regs → mdAt m (f r) = mdAt l r) → ∀ r, 0 ≤ r → r < regs → mdAt (setAll m (rs.map f)) (f r) = mdAt (setAll l rs) r
  | [], l, m, _, _, _, h => h
  | k :: rs, l, m, hk, hl, hm, h => mdR_setAll H rs (l.set k.toNat true) (m.set (f k).toNat true) (fun r hr => hk r (by simp [hr])) (by rw [List.length_set, hl]) (by rw [List.length_set, hm]) (mdR_setK H (hk k (by simp)).1 (hk k (by simp)).2 hl hm h)
theorem rstep_rn {f : Int → Int} {regs regs' : Int} {bs : List Bf} {c c' d : Ck} {o : Lop} (H : Rn f regs regs') (h : rstep regs bs c o = .inr c') (hR : CkR f regs regs' c d) : ∃ d', rstep regs' bs d (rnO f o) = .inr d' ∧ CkR f regs regs' c' d' := by
  unfold rstep at h
  cases hf : rfields regs bs o with
  | false => rw [hf] at h; cases h
  | true =>
  rw [hf] at h
  simp only [if_true] at h
  have hmk := rf_makes hf
  have htk := rf_takes hf
  have hf2 := rf_rn H hf
  unfold rstep
  rw [hf2, makes_rn, takes_rn H hf]
  simp only [if_true]
  show ∃ d', (if cm .eql o.k 17 then _ else _) = _ ∧ _
  cases hk17 : cm .eql o.k 17 with
  | true =>
    rw [hk17] at h
    simp only [if_true] at h ⊢
    cases hg : c.loops.getLast? with
    | none => rw [hg] at h; cases h
    | some r =>
      rw [hg] at h
      cases h
      have hr := hR.lr r (List.mem_of_getLast? hg)
      have hg2 : d.loops.getLast? = some (f r) := by rw [hR.lp, List.getLast?_map, hg]; rfl
      rw [hg2]
      refine ⟨_, rfl, ⟨?_, fun q hq => hR.lr q (List.dropLast_subset _ hq), ?_, ?_, ?_⟩⟩
      · simp only; rw [hR.lp, List.map_dropLast]
      · simp only; rw [List.length_set, hR.ml]
      · simp only; rw [List.length_set, hR.dl]
      · exact mdR_setK H hr.1 hr.2 hR.ml hR.dl hR.md
  | false =>
    rw [hk17] at h
    simp only [Bool.false_eq_true, if_false] at h ⊢
    split at h
    · cases h
    rename_i hn1
    split at h
    · cases h
    rename_i hn2
    split at h
    · cases h
    rename_i hn3
    split at h
    · cases h
    rename_i hn4
    cases h
    have hd : cm .eql o.k 16 = true → 0 ≤ o.d ∧ o.d < regs := fun h => hmk o.d (by rw [makes_loop (cm_yes' h)]; simp)
    rw [if_neg, if_neg, if_neg, if_neg]
    · refine ⟨_, rfl, ⟨?_, ?_, ?_, ?_, ?_⟩⟩
      · simp only
        show (if cm .eql o.k 16 then d.loops ++ [f o.d] else d.loops) = _
        split <;> rw [hR.lp] <;> simp
      · simp only
        intro q hq
        split at hq
        · rename_i h16
          rcases List.mem_append.1 hq with hq | hq
          · exact hR.lr q hq
          · rw [List.mem_singleton] at hq; rw [hq]; exact hd h16
        · exact hR.lr q hq
      · simp only; rw [setAll_len2, hR.ml]
      · simp only; rw [setAll_len2, hR.dl]
      · exact mdR_setAll H _ _ _ hmk hR.ml hR.dl hR.md
    · intro hh
      obtain ⟨x, hx, hx2⟩ := List.any_eq_true.1 hh
      obtain ⟨r, hr, rfl⟩ := List.mem_map.1 hx
      rw [hR.md r (htk r hr).1 (htk r hr).2] at hx2
      exact hn4 (List.any_eq_true.2 ⟨r, hr, hx2⟩)
    · show ¬ (cm .eql o.k 16 && cm .eql (d.loops.length : Int) 8) = true
      rw [hR.lp, List.length_map]; exact hn3
    · show ¬ (cm .eql o.k 16 && mdAt d.made (f o.d)) = true
      intro hh
      rw [Bool.and_eq_true] at hh
      have := hd hh.1
      rw [hR.md _ this.1 this.2] at hh
      exact hn2 (by rw [Bool.and_eq_true]; exact hh)
    · intro hh
      obtain ⟨x, hx, hx2⟩ := List.any_eq_true.1 hh
      obtain ⟨r, hr, rfl⟩ := List.mem_map.1 hx
      rw [List.contains_iff_mem, hR.lp] at hx2
      obtain ⟨q, hq, hq2⟩ := List.mem_map.1 hx2
      have e := H.inj _ _ (hR.lr q hq).1 (hR.lr q hq).2 (hmk r hr).1 (hmk r hr).2 hq2
      subst e
      exact hn1 (List.any_eq_true.2 ⟨q, hr, List.contains_iff_mem.2 hq⟩)
theorem rrun_rn {f : Int → Int} {regs regs' : Int} {bs : List Bf} (H : Rn f regs regs') (rest : List Lop) : ∀ (os : List Lop) (i : Nat) (c d : Ck), (rrun regs bs (os ++ rest) i c).2 = 0 → CkR f regs regs' c d →
    ∃ c' d', CkR f regs regs' c' d' ∧ (rrun regs bs rest (i + os.length) c').2 = 0 ∧ ∀ j rest', rrun regs' bs (os.map (rnO f) ++ rest') j d = rrun regs' bs rest' (j + os.length) d'
  | [], i, c, d, h, hR => ⟨c, d, hR, h, fun j rest' => rfl⟩
  | o :: os, i, c, d, h, hR => by
    have h' : (rrun regs bs (o :: (os ++ rest)) i c).2 = 0 := h
    unfold rrun at h'
    cases hst : rstep regs bs c o with
    | inl e => rw [hst] at h'; have := rstep_ne hst; simp only at h'; omega
    | inr c1 =>
      rw [hst] at h'
      simp only at h'
      obtain ⟨d1, h1, h2⟩ := rstep_rn H hst hR
      obtain ⟨c', d', k1, k2, k3⟩ := rrun_rn H rest os (i + 1) c1 d1 h' h2
      refine ⟨c', d', k1, by rw [show i + (o :: os).length = i + 1 + os.length by simp; omega]; exact k2, fun j rest' => ?_⟩
      show (match rstep regs' bs d (rnO f o) with | .inl e => (((j : Nat) : Int), e) | .inr c'' => rrun regs' bs (os.map (rnO f) ++ rest') (j + 1) c'') = _
      rw [h1]
      simp only
      rw [k3, show j + 1 + os.length = j + (o :: os).length by simp; omega]
theorem CkR.init {f : Int → Int} {regs regs' : Int} (H : Rn f regs regs') : CkR f regs regs' ⟨List.replicate regs.toNat false, []⟩ ⟨List.replicate regs'.toNat false, []⟩ := by
  refine ⟨rfl, (fun r hr => by cases hr), by simp, by simp, fun r h0 h1 => ?_⟩
  have := H.rg r h0 h1
  unfold mdAt
  simp only
  rw [List.getElem?_replicate, List.getElem?_replicate, if_pos (by omega), if_pos (by omega)]
theorem rrun_nil {regs regs' : Int} {bs : List Bf} {f : Int → Int} {i j : Nat} {c d : Ck} (hR : CkR f regs regs' c d) (h : (rrun regs bs [] i c).2 = 0) : (rrun regs' bs [] j d).2 = 0 := by
  unfold rrun at h ⊢
  simp only at h ⊢
  split at h
  · rename_i hl
    rw [if_pos (by rw [hR.lp, hl]; rfl)]
  · omega
/-- Runs that agree. -/
structure RR (f : Int → Int) (regs : Int) (s t : RS) : Prop where
  b : t.bufs = s.bufs
  sl : s.r.length = 64
  tl : t.r.length = 64
  r : ∀ r, 0 ≤ r → r < regs → t.r[(f r).toNat]? = s.r[r.toNat]?
theorem RR.rAt {f : Int → Int} {regs regs' : Int} (H : Rn f regs regs') {s t : RS} (h : RR f regs s t) {k : Int} (hk : InR regs k) : rAt t.r (f k) = rAt s.r k := by
  unfold Go.Proofs.Ytkjlgapkcdcmgaa.rAt
  rcases hk with rfl | hk
  · rw [H.n1]; rfl
  · have := H.rg k hk.1 hk.2
    rw [if_neg (by rw [cm_lo' this.1]; simp), if_neg (by rw [cm_lo' hk.1]; simp), h.r k hk.1 hk.2]
theorem RR.put {f : Int → Int} {regs regs' : Int} (H : Rn f regs regs') (h64 : regs ≤ 64) (h64' : regs' ≤ 64) {s t : List Int} (hs : s.length = 64) (ht : t.length = 64) (h : ∀ r, 0 ≤ r → r < regs → t[(f r).toNat]? = s[r.toNat]?) {k v : Int} (hk : InR regs k) :
    ∀ r, 0 ≤ r → r < regs → (putR t (f k) v)[(f r).toNat]? = (putR s k v)[r.toNat]? := by
  intro r h0 h1
  have hr := H.rg r h0 h1
  rw [getElem?_putR _ _ _ _ hr.1, getElem?_putR _ _ _ _ h0]
  rcases hk with rfl | hk
  · rw [H.n1, if_neg (by omega), if_neg (by omega)]; exact h r h0 h1
  · have hk2 := H.rg k hk.1 hk.2
    by_cases e : r = k
    · subst e
      rw [if_pos rfl, if_pos rfl, if_pos (by omega), if_pos (by omega)]
    · rw [if_neg (fun e2 => e (H.inj _ _ h0 h1 hk.1 hk.2 e2)), if_neg e]
      exact h r h0 h1
theorem stepO_eq (f : Int → Int) (o : Lop) (j : Nat) (t : RS) : stepO (rnO f o) j t = (if cm .eql o.k 14 || cm .eql o.k 15 then
    (if cm .geq (ar .add .u64 o.imm (rAt t.r (f o.a))) (bufAt t o.buf).length then none
    else some ⟨if cm .eql o.k 15 then t.r else putR t.r (f o.d) (((bufAt t o.buf)[(ar .add .u64 o.imm (rAt t.r (f o.a))).toNat]?).getD 0),
      if cm .eql o.k 15 then t.bufs.set o.buf.toNat ((bufAt t o.buf).set (ar .add .u64 o.imm (rAt t.r (f o.a))).toNat (rAt t.r (f o.b))) else t.bufs,
      t.l ++ [⟨j, ar .add .u64 o.imm (rAt t.r (f o.a))⟩]⟩)
  else
    some ⟨putR (putR t.r (f o.d) (makeV o (rAt t.r (f o.a)) (rAt t.r (f o.b)) (cm .eql (ar .rem .u64 (rAt t.r (f o.c)) 2) 1)).1) (f o.e) (makeV o (rAt t.r (f o.a)) (rAt t.r (f o.b)) (cm .eql (ar .rem .u64 (rAt t.r (f o.c)) 2) 1)).2, t.bufs, t.l ++ [⟨j, -1⟩]⟩) := rfl
theorem stepO_rn {f : Int → Int} {regs regs' : Int} (H : Rn f regs regs') (h64 : regs ≤ 64) (h64' : regs' ≤ 64) {bs : List Bf} {o : Lop} {i j : Nat} {s t : RS} (hf : rfields regs bs o = true) (h : RR f regs s t) :
    (stepO o i s = none ∧ stepO (rnO f o) j t = none) ∨ ∃ s' t', stepO o i s = some s' ∧ stepO (rnO f o) j t = some t' ∧ RR f regs s' t' := by
  obtain ⟨i1, i2, i3, i4, i5⟩ := rf_in hf
  have hb : ∀ k, bufAt t k = bufAt s k := fun k => by unfold bufAt; rw [h.b]
  have ha := h.rAt H i3
  have hbb := h.rAt H i4
  have hcc := h.rAt H i5
  rw [stepO_eq, ha, hbb, hcc, hb]
  unfold stepO
  cases hm : (cm .eql o.k 14 || cm .eql o.k 15) with
  | true =>
    simp only [if_true]
    cases hg : cm .geq (ar .add .u64 o.imm (rAt s.r o.a)) (bufAt s o.buf).length with
    | true => simp only [if_true]; exact .inl ⟨trivial, trivial⟩
    | false =>
      simp only [Bool.false_eq_true, if_false]
      refine .inr ⟨_, _, rfl, rfl, ?_⟩
      cases hk15 : cm .eql o.k 15 with
      | true =>
        simp only [if_true]
        exact ⟨by simp only; rw [h.b], h.sl, h.tl, h.r⟩
      | false =>
        simp only [Bool.false_eq_true, if_false]
        exact ⟨h.b, by simp only; rw [putR_len]; exact h.sl, by simp only; rw [putR_len]; exact h.tl, RR.put H h64 h64' h.sl h.tl h.r i1⟩
  | false =>
    simp only [Bool.false_eq_true, if_false]
    refine .inr ⟨_, _, rfl, rfl, ?_⟩
    exact ⟨h.b, by simp only; rw [putR_len, putR_len]; exact h.sl, by simp only; rw [putR_len, putR_len]; exact h.tl, RR.put H h64 h64' (by rw [putR_len]; exact h.sl) (by rw [putR_len]; exact h.tl) (RR.put H h64 h64' h.sl h.tl h.r i1) i2⟩
def Pg.rn (f : Int → Int) : Pg → Pg
  | .nil => .nil
  | .op o r => .op (rnO f o) (r.rn f)
  | .loop o b r => .loop (rnO f o) (b.rn f) (r.rn f)
theorem endO_rn {f : Int → Int} {regs regs' : Int} (H : Rn f regs regs') : rnO f endO = endO := by
  unfold rnO endO
  simp only [H.n1]
theorem rn_flat {f : Int → Int} {regs regs' : Int} (H : Rn f regs regs') : ∀ p : Pg, (p.rn f).flat = p.flat.map (rnO f)
  | .nil => rfl
  | .op o r => by show rnO f o :: (r.rn f).flat = _; rw [rn_flat H r]; rfl
  | .loop o b r => by
    show rnO f o :: ((b.rn f).flat ++ endO :: (r.rn f).flat) = (o :: (b.flat ++ endO :: r.flat)).map (rnO f)
    rw [rn_flat H b, rn_flat H r, List.map_cons, List.map_append, List.map_cons, endO_rn H]
theorem rn_cnt {f : Int → Int} : ∀ p : Pg, (p.rn f).cnt = p.cnt
  | .nil => rfl
  | .op o r => by show (r.rn f).cnt + 1 = r.cnt + 1; rw [rn_cnt r]
  | .loop o b r => by show o.imm.toNat * ((b.rn f).cnt + 1) + (r.rn f).cnt = o.imm.toNat * (b.cnt + 1) + r.cnt; rw [rn_cnt b, rn_cnt r]
theorem rn_safe {f : Int → Int} {regs regs' : Int} {bs : List Bf} (H : Rn f regs regs') : ∀ (p : Pg) (ls : List Int), p.Safe regs bs ls → (∀ x ∈ ls, 0 ≤ x ∧ x < regs) → (p.rn f).Safe regs' bs (ls.map f)
  | .nil, ls, _, _ => trivial
  | .op o r, ls, h, hl => by
    obtain ⟨h1, h2, h3, h4, h5⟩ := h
    refine ⟨rf_rn H h1, h2, h3, fun x hx hx2 => ?_, rn_safe H r ls h5 hl⟩
    rw [makes_rn] at hx
    obtain ⟨y, hy, rfl⟩ := List.mem_map.1 hx
    obtain ⟨z, hz, hz2⟩ := List.mem_map.1 hx2
    have := rf_makes h1 y hy
    have e := H.inj _ _ (hl z hz).1 (hl z hz).2 this.1 this.2 hz2
    subst e
    exact h4 z hy hz
  | .loop o b r, ls, h, hl => by
    obtain ⟨h1, h2, h3, h4, h5⟩ := h
    have hd := rf_makes h1 o.d (by rw [makes_loop h2]; simp)
    refine ⟨rf_rn H h1, h2, fun hx => ?_, ?_, rn_safe H r ls h5 hl⟩
    · obtain ⟨z, hz, hz2⟩ := List.mem_map.1 hx
      have e := H.inj _ _ (hl z hz).1 (hl z hz).2 hd.1 hd.2 hz2
      subst e
      exact h3 hz
    · have := rn_safe H b (o.d :: ls) h4 (fun x hx => by
        rcases List.mem_cons.1 hx with rfl | hx
        · exact hd
        · exact hl x hx)
      exact this
def XR (f : Int → Int) (regs : Int) (x y : RS × Bool) : Prop := y.2 = x.2 ∧ RR f regs x.1 y.1
theorem iter_rel {R : RS → RS → Prop} {g k : Nat → RS → RS × Bool} (h : ∀ n s t, R s t → (k n t).2 = (g n s).2 ∧ R (g n s).1 (k n t).1) : ∀ (m n : Nat) (s t : RS), R s t → (iter k n m t).2 = (iter g n m s).2 ∧ R (iter g n m s).1 (iter k n m t).1
  | 0, n, s, t, hR => ⟨rfl, hR⟩
  | m + 1, n, s, t, hR => by
    unfold iter
    have := h n s t hR
    revert this
    cases g n s with
    | mk s1 a =>
      cases k n t with
      | mk t1 b =>
        rintro ⟨h1, h2⟩
        simp only at h1 h2
        subst h1
        cases b with
        | false => exact ⟨rfl, h2⟩
        | true => exact iter_rel h m (n + 1) s1 t1 h2
theorem RR.loop {f : Int → Int} {regs regs' : Int} (H : Rn f regs regs') (h64 : regs ≤ 64) (h64' : regs' ≤ 64) {s t : RS} (h : RR f regs s t) {d : Int} (h0 : 0 ≤ d) (h1 : d < regs) (n : Int) (l m : List Ev) : RR f regs ⟨s.r.set d.toNat n, s.bufs, l⟩ ⟨t.r.set (f d).toNat n, t.bufs, m⟩ := by
  have hd := H.rg d h0 h1
  have := RR.put H h64 h64' h.sl h.tl h.r (k := d) (v := n) (.inr ⟨h0, h1⟩)
  unfold putR at this
  rw [if_pos (cm_ge hd.1), if_pos (cm_ge h0)] at this
  exact ⟨h.b, by simp only; rw [List.length_set]; exact h.sl, by simp only; rw [List.length_set]; exact h.tl, this⟩
theorem exec_rn {f : Int → Int} {regs regs' : Int} {bs : List Bf} (H : Rn f regs regs') (h64 : regs ≤ 64) (h64' : regs' ≤ 64) : ∀ (p : Pg) (ls : List Int) (i j : Nat) (s t : RS), p.Safe regs bs ls → RR f regs s t → XR f regs (p.exec i s) ((p.rn f).exec j t)
  | .nil, ls, i, j, s, t, _, h => by
    show XR f regs (Pg.nil.exec i s) (Pg.nil.exec j t)
    rw [exec_nil, exec_nil]; exact ⟨rfl, h⟩
  | .op o r, ls, i, j, s, t, hs, h => by
    obtain ⟨h1, h2, h3, h4, h5⟩ := hs
    show XR f regs ((Pg.op o r).exec i s) ((Pg.op (rnO f o) (r.rn f)).exec j t)
    rw [exec_op, exec_op]
    rcases stepO_rn H h64 h64' (i := i) (j := j) h1 h with ⟨e1, e2⟩ | ⟨s', t', e1, e2, h'⟩
    · rw [e1, e2]; exact ⟨rfl, h⟩
    · rw [e1, e2]; exact exec_rn H h64 h64' r ls (i + 1) (j + 1) s' t' h5 h'
  | .loop o b r, ls, i, j, s, t, hs, h => by
    obtain ⟨h1, h2, h3, h4, h5⟩ := hs
    have hd := rf_makes h1 o.d (by rw [makes_loop h2]; simp)
    show XR f regs ((Pg.loop o b r).exec i s) ((Pg.loop (rnO f o) (b.rn f) (r.rn f)).exec j t)
    rw [exec_loop, exec_loop]
    have hi := iter_rel (R := RR f regs) (g := fun n s => b.exec (i + 1) ⟨s.r.set o.d.toNat n, s.bufs, s.l ++ [⟨i, -1⟩]⟩) (k := fun n s => (b.rn f).exec (j + 1) ⟨s.r.set (rnO f o).d.toNat n, s.bufs, s.l ++ [⟨j, -1⟩]⟩)
      (fun n s t hR => exec_rn H h64 h64' b (o.d :: ls) (i + 1) (j + 1) _ _ h4 (hR.loop H h64 h64' hd.1 hd.2 n _ _)) o.imm.toNat 0 s t h
    revert hi
    have e1 : (rnO f o).imm.toNat = o.imm.toNat := rfl
    rw [e1]
    cases iter (fun n s => b.exec (i + 1) ⟨s.r.set o.d.toNat n, s.bufs, s.l ++ [⟨i, -1⟩]⟩) 0 o.imm.toNat s with
    | mk s1 a =>
      cases iter (fun n s => (b.rn f).exec (j + 1) ⟨s.r.set (rnO f o).d.toNat n, s.bufs, s.l ++ [⟨j, -1⟩]⟩) 0 o.imm.toNat t with
      | mk t1 c =>
        rintro ⟨k1, k2⟩
        simp only at k1 k2
        subst k1
        cases c with
        | false => exact ⟨rfl, k2⟩
        | true => exact exec_rn H h64 h64' r ls _ _ s1 t1 h5 k2
/-- Renamed to itself. -/
theorem Rn.idn {regs regs' : Int} (h : regs ≤ regs') : Rn (fun r => r) regs regs' := ⟨rfl, fun r h0 h1 => ⟨h0, by omega⟩, fun r s _ _ _ _ e => e⟩
theorem rnO_idn (o : Lop) : rnO (fun r => r) o = o := rfl
theorem Pg.rn_idn : ∀ p : Pg, p.rn (fun r => r) = p
  | .nil => rfl
  | .op o r => by show Pg.op o (r.rn fun r => r) = _; rw [Pg.rn_idn r]
  | .loop o b r => by show Pg.loop o (b.rn fun r => r) (r.rn fun r => r) = _; rw [Pg.rn_idn b, Pg.rn_idn r]
/-- An operation more, behind so many. -/
def Pg.ins (c : Lop) : Nat → Pg → Pg
  | 0, p => .op c p
  | _ + 1, .nil => .op c .nil
  | k + 1, .op o r => .op o (r.ins c k)
  | k + 1, .loop o b r => if k ≤ b.flat.length then .loop o (b.ins c k) r else .loop o b (r.ins c (k - b.flat.length - 1))
theorem ins_zero (c : Lop) (p : Pg) : p.ins c 0 = .op c p := by cases p <;> rw [Pg.ins]
theorem ins_nil (c : Lop) (k : Nat) : Pg.nil.ins c (k + 1) = .op c .nil := by rw [Pg.ins]
theorem ins_op (c o : Lop) (r : Pg) (k : Nat) : (Pg.op o r).ins c (k + 1) = .op o (r.ins c k) := by rw [Pg.ins]
theorem ins_loop (c o : Lop) (b r : Pg) (k : Nat) : (Pg.loop o b r).ins c (k + 1) = if k ≤ b.flat.length then .loop o (b.ins c k) r else .loop o b (r.ins c (k - b.flat.length - 1)) := by rw [Pg.ins]
theorem ins_flat (c : Lop) : ∀ (p : Pg) (k : Nat), k ≤ p.flat.length → (p.ins c k).flat = p.flat.take k ++ c :: p.flat.drop k
  | p, 0, _ => by rw [ins_zero]; rfl
  | .nil, k + 1, h => by simp [Pg.flat] at h
  | .op o r, k + 1, h => by
    rw [ins_op]
    show o :: (r.ins c k).flat = _
    rw [ins_flat c r k (by simpa [Pg.flat] using h)]; rfl
  | .loop o b r, k + 1, h => by
    have hlen : k ≤ b.flat.length + (r.flat.length + 1) := by simpa [Pg.flat] using h
    rw [ins_loop]
    show (if k ≤ b.flat.length then Pg.loop o (b.ins c k) r else Pg.loop o b (r.ins c (k - b.flat.length - 1))).flat = (o :: (b.flat ++ endO :: r.flat)).take (k + 1) ++ c :: (o :: (b.flat ++ endO :: r.flat)).drop (k + 1)
    by_cases hk : k ≤ b.flat.length
    · rw [if_pos hk]
      show o :: ((b.ins c k).flat ++ endO :: r.flat) = _
      rw [ins_flat c b k hk, List.take_succ_cons, List.drop_succ_cons, List.take_append_of_le_length hk, List.drop_append_of_le_length hk]
      simp
    · rw [if_neg hk]
      show o :: (b.flat ++ endO :: (r.ins c (k - b.flat.length - 1)).flat) = _
      obtain ⟨m, rfl⟩ : ∃ m, k = b.flat.length + (m + 1) := ⟨k - b.flat.length - 1, by omega⟩
      rw [show b.flat.length + (m + 1) - b.flat.length - 1 = m by omega, ins_flat c r m (by omega), List.take_succ_cons, List.drop_succ_cons]
      rw [List.take_append, List.drop_append, List.take_of_length_le (by omega : b.flat.length ≤ b.flat.length + (m + 1)), List.drop_of_length_le (by omega : b.flat.length ≤ b.flat.length + (m + 1))]
      rw [show b.flat.length + (m + 1) - b.flat.length = m + 1 by omega, List.take_succ_cons, List.drop_succ_cons]
      simp
theorem ins_cnt (c : Lop) : ∀ (p : Pg) (k : Nat), (p.ins c k).cnt ≤ 2 * p.cnt + 1
  | p, 0 => by
    have : (p.ins c 0).cnt = p.cnt + 1 := by rw [ins_zero]; rfl
    omega
  | .nil, k + 1 => by rw [ins_nil]; show 0 + 1 ≤ 2 * 0 + 1; omega
  | .op o r, k + 1 => by
    rw [ins_op]
    show (r.ins c k).cnt + 1 ≤ 2 * (r.cnt + 1) + 1
    have := ins_cnt c r k
    omega
  | .loop o b r, k + 1 => by
    rw [ins_loop]
    show (if k ≤ b.flat.length then Pg.loop o (b.ins c k) r else Pg.loop o b (r.ins c (k - b.flat.length - 1))).cnt ≤ 2 * (o.imm.toNat * (b.cnt + 1) + r.cnt) + 1
    split
    · show o.imm.toNat * ((b.ins c k).cnt + 1) + r.cnt ≤ _
      have h1 := ins_cnt c b k
      have h2 : o.imm.toNat * ((b.ins c k).cnt + 1) ≤ o.imm.toNat * (2 * (b.cnt + 1)) := Nat.mul_le_mul_left _ (by omega)
      rw [show o.imm.toNat * (2 * (b.cnt + 1)) = 2 * (o.imm.toNat * (b.cnt + 1)) by rw [← Nat.mul_assoc, Nat.mul_comm _ 2, Nat.mul_assoc]] at h2
      omega
    · show o.imm.toNat * (b.cnt + 1) + (r.ins c (k - b.flat.length - 1)).cnt ≤ _
      have h1 := ins_cnt c r (k - b.flat.length - 1)
      omega
/-- The operation that is put between. -/
def unC (regs n : Int) : Lop := ⟨1, regs, -1, -1, -1, -1, 0, n⟩
theorem rf_unC {regs regs' : Int} (bs : List Bf) (n : Int) (h0 : 0 ≤ regs) (h : regs < regs') : rfields regs' bs (unC regs n) = true := by
  have g : fieldM regs' regs true = true := by unfold fieldM; simp [cm]; exact ⟨h0, h⟩
  simp [rfields, unC, rbad, g, cm, hasE, mem]
  simp [fieldM, cm]
theorem up_safe {regs regs' : Int} {bs : List Bf} (h : regs ≤ regs') {p : Pg} {ls : List Int} (hs : p.Safe regs bs ls) (hl : ∀ x ∈ ls, 0 ≤ x ∧ x < regs) : p.Safe regs' bs ls := by
  have := rn_safe (Rn.idn h) p ls hs hl
  rw [Pg.rn_idn] at this
  simpa using this
theorem rf_wide {regs regs' : Int} {bs : List Bf} {o : Lop} (h : regs ≤ regs') (hf : rfields regs bs o = true) : rfields regs' bs o = true := by
  have := rf_rn (Rn.idn h) hf
  rw [rnO_idn] at this; exact this
theorem ins_safe {regs regs' : Int} {bs : List Bf} {n : Int} (h0 : 0 ≤ regs) (h : regs < regs') : ∀ (p : Pg) (k : Nat) (ls : List Int), p.Safe regs bs ls → (∀ x ∈ ls, 0 ≤ x ∧ x < regs) → (p.ins (unC regs n) k).Safe regs' bs ls
  | p, 0, ls, hs, hl => by
    rw [ins_zero]
    refine ⟨rf_unC bs n h0 h, by show (1 : Int) ≠ 16; decide, by show (1 : Int) ≠ 17; decide, fun x hx hx2 => ?_, up_safe (by omega) hs hl⟩
    have e : x = regs := by
      have : makesM (unC regs n) = [regs] := rfl
      rw [this, List.mem_singleton] at hx; exact hx
    have := hl x hx2
    omega
  | .nil, k + 1, ls, hs, hl => by
    rw [ins_nil]
    refine ⟨rf_unC bs n h0 h, by show (1 : Int) ≠ 16; decide, by show (1 : Int) ≠ 17; decide, fun x hx hx2 => ?_, trivial⟩
    have e : x = regs := by
      have : makesM (unC regs n) = [regs] := rfl
      rw [this, List.mem_singleton] at hx; exact hx
    have := hl x hx2
    omega
  | .op o r, k + 1, ls, hs, hl => by
    obtain ⟨h1, h2, h3, h4, h5⟩ := hs
    rw [ins_op]
    exact ⟨rf_wide (Int.le_of_lt h) h1, h2, h3, h4, ins_safe h0 h r k ls h5 hl⟩
  | .loop o b r, k + 1, ls, hs, hl => by
    obtain ⟨h1, h2, h3, h4, h5⟩ := hs
    have hd := rf_makes h1 o.d (by rw [makes_loop h2]; simp)
    have hl2 : ∀ x ∈ o.d :: ls, 0 ≤ x ∧ x < regs := fun x hx => by
      rcases List.mem_cons.1 hx with rfl | hx
      · exact hd
      · exact hl x hx
    have hf := rf_wide (Int.le_of_lt h) h1
    rw [ins_loop]
    split
    · exact ⟨hf, h2, h3, ins_safe h0 h b k _ h4 hl2, up_safe (by omega) h5 hl⟩
    · exact ⟨hf, h2, h3, up_safe (by omega) h4 hl2, ins_safe h0 h r _ _ h5 hl⟩
theorem unC_step {regs : Int} (h0 : 0 ≤ regs) {n : Int} {j : Nat} {s t : RS} (h : RR (fun r => r) regs s t) : ∃ t', stepO (unC regs n) j t = some t' ∧ RR (fun r => r) regs s t' := by
  refine ⟨⟨putR (putR t.r regs n) (-1) 0, t.bufs, t.l ++ [⟨j, -1⟩]⟩, by simp [stepO, unC, cm, makeV], h.b, h.sl, by simp only; rw [putR_len, putR_len]; exact h.tl, fun r r0 r1 => ?_⟩
  simp only
  rw [putR_no (by omega), putR_keep r0 (by omega)]
  exact h.r r r0 r1
theorem exec_ins {regs regs' : Int} {bs : List Bf} {n : Int} (h0 : 0 ≤ regs) (hlt : regs < regs') (h64' : regs' ≤ 64) : ∀ (p : Pg) (k : Nat) (ls : List Int) (i j : Nat) (s t : RS), p.Safe regs bs ls → RR (fun r => r) regs s t → XR (fun r => r) regs (p.exec i s) ((p.ins (unC regs n) k).exec j t)
  | p, 0, ls, i, j, s, t, hs, h => by
    rw [ins_zero]
    obtain ⟨t', e, h'⟩ := unC_step h0 (n := n) (j := j) h
    have : (Pg.op (unC regs n) p).exec j t = p.exec (j + 1) t' := by
      rw [exec_op, e]
    rw [this]
    have := exec_rn (Rn.idn (show regs ≤ regs' by omega)) (by omega) h64' p ls i (j + 1) s t' hs h'
    rw [Pg.rn_idn] at this
    exact this
  | .nil, k + 1, ls, i, j, s, t, hs, h => by
    obtain ⟨t', e, h'⟩ := unC_step h0 (n := n) (j := j) h
    have : (Pg.op (unC regs n) .nil).exec j t = Pg.nil.exec (j + 1) t' := by rw [exec_op, e]
    rw [ins_nil, this, exec_nil, exec_nil]
    exact ⟨rfl, h'⟩
  | .op o r, k + 1, ls, i, j, s, t, hs, h => by
    obtain ⟨h1, h2, h3, h4, h5⟩ := hs
    rw [ins_op, exec_op, exec_op]
    rcases stepO_rn (Rn.idn (show regs ≤ regs' by omega)) (by omega) h64' (i := i) (j := j) h1 h with ⟨e1, e2⟩ | ⟨s', t', e1, e2, h'⟩
    · rw [rnO_idn] at e2; rw [e1, e2]; exact ⟨rfl, h⟩
    · rw [rnO_idn] at e2; rw [e1, e2]; exact exec_ins h0 hlt h64' r k ls (i + 1) (j + 1) s' t' h5 h'
  | .loop o b r, k + 1, ls, i, j, s, t, hs, h => by
    obtain ⟨h1, h2, h3, h4, h5⟩ := hs
    have hd := rf_makes h1 o.d (by rw [makes_loop h2]; simp)
    have H := Rn.idn (show regs ≤ regs' by omega)
    rw [ins_loop]
    split
    · rw [exec_loop, exec_loop]
      have hi := iter_rel (R := RR (fun r => r) regs) (g := fun n s => b.exec (i + 1) ⟨s.r.set o.d.toNat n, s.bufs, s.l ++ [⟨i, -1⟩]⟩) (k := fun m s => (b.ins (unC regs n) k).exec (j + 1) ⟨s.r.set o.d.toNat m, s.bufs, s.l ++ [⟨j, -1⟩]⟩)
        (fun m s t hR => exec_ins h0 hlt h64' b k (o.d :: ls) (i + 1) (j + 1) _ _ h4 (hR.loop H (by omega) h64' hd.1 hd.2 m _ _)) o.imm.toNat 0 s t h
      revert hi
      cases iter (fun n s => b.exec (i + 1) ⟨s.r.set o.d.toNat n, s.bufs, s.l ++ [⟨i, -1⟩]⟩) 0 o.imm.toNat s with
      | mk s1 a =>
        cases iter (fun m s => (b.ins (unC regs n) k).exec (j + 1) ⟨s.r.set o.d.toNat m, s.bufs, s.l ++ [⟨j, -1⟩]⟩) 0 o.imm.toNat t with
        | mk t1 c =>
          rintro ⟨k1, k2⟩
          simp only at k1 k2
          subst k1
          cases c with
          | false => exact ⟨rfl, k2⟩
          | true =>
            have := exec_rn H (by omega) h64' r ls (i + b.flat.length + 2) (j + (b.ins (unC regs n) k).flat.length + 2) s1 t1 h5 k2
            rw [Pg.rn_idn] at this
            exact this
    · rw [exec_loop, exec_loop]
      have hi := iter_rel (R := RR (fun r => r) regs) (g := fun n s => b.exec (i + 1) ⟨s.r.set o.d.toNat n, s.bufs, s.l ++ [⟨i, -1⟩]⟩) (k := fun m s => b.exec (j + 1) ⟨s.r.set o.d.toNat m, s.bufs, s.l ++ [⟨j, -1⟩]⟩)
        (fun m s t hR => by
          have := exec_rn H (by omega) h64' b (o.d :: ls) (i + 1) (j + 1) _ _ h4 (hR.loop H (by omega) h64' hd.1 hd.2 m (s.l ++ [⟨i, -1⟩]) (t.l ++ [⟨j, -1⟩]))
          rw [Pg.rn_idn] at this
          exact this) o.imm.toNat 0 s t h
      revert hi
      cases iter (fun n s => b.exec (i + 1) ⟨s.r.set o.d.toNat n, s.bufs, s.l ++ [⟨i, -1⟩]⟩) 0 o.imm.toNat s with
      | mk s1 a =>
        cases iter (fun m s => b.exec (j + 1) ⟨s.r.set o.d.toNat m, s.bufs, s.l ++ [⟨j, -1⟩]⟩) 0 o.imm.toNat t with
        | mk t1 c =>
          rintro ⟨k1, k2⟩
          simp only at k1 k2
          subst k1
          cases c with
          | false => exact ⟨rfl, k2⟩
          | true => exact exec_ins h0 hlt h64' r _ ls _ _ s1 t1 h5 k2
theorem rr_init {f : Int → Int} {regs regs' : Int} (H : Rn f regs regs') (h64 : regs ≤ 64) (h64' : regs' ≤ 64) (bs : List Bf) (rs : Rws) : RR f regs (initL bs rs) (initL bs rs) := by
  refine ⟨rfl, ?_, ?_, fun r h0 h1 => ?_⟩
  · show (List.replicate 64 (0 : Int)).length = 64; simp
  · show (List.replicate 64 (0 : Int)).length = 64; simp
  · have := H.rg r h0 h1
    show (List.replicate 64 (0 : Int))[(f r).toNat]? = (List.replicate 64 (0 : Int))[r.toNat]?
    rw [List.getElem?_replicate, List.getElem?_replicate, if_pos (by omega), if_pos (by omega)]
theorem head_regs {regs regs' : Int} {bs : List Bf} {n n' : Nat} (h : rhead regs bs n = none) (h0 : 0 ≤ regs') (h64 : regs' ≤ 64) (hn : n' ≤ 65536) : rhead regs' bs n' = none := by
  unfold rhead at h ⊢
  split at h
  · cases h
  rename_i h1
  split at h
  · cases h
  rename_i h2
  split at h
  · cases h
  rename_i h3
  split at h
  · cases h
  rename_i h4
  rw [if_neg, if_neg h2, if_neg (by simp [cm]; omega), if_neg h4]
  simp only [Bool.or_eq_true, not_or] at h1 ⊢
  exact ⟨⟨by simp [cm]; omega, h1.1.2⟩, by simp [cm]; omega⟩
/-- Two runs that end alike. -/
theorem out_two {regs regs' : Int} {bs : List Bf} {os os' : List Lop} {rs : Rws} (he : (checkM regs bs os).2 = 0) (he' : (checkM regs' bs os').2 = 0) (hs : stepsM os ≤ 16777216) (hs' : stepsM os' ≤ 16777216)
    (h : ((treeOf os').exec 0 (initL bs rs)).2 = ((treeOf os).exec 0 (initL bs rs)).2 ∧ ((treeOf os').exec 0 (initL bs rs)).1.bufs = ((treeOf os).exec 0 (initL bs rs)).1.bufs) :
    (outR regs' bs os' rs).1 = (outR regs bs os rs).1 ∧ (outR regs' bs os' rs).2.1 = (outR regs bs os rs).2.1 := by
  cases hro : rowsM bs rs with
  | false =>
    have e1 : outR regs bs os rs = (2, [], []) := by unfold outR; rw [if_neg (by omega), if_neg (by omega), if_pos hro]
    have e2 : outR regs' bs os' rs = (2, [], []) := by unfold outR; rw [if_neg (by omega), if_neg (by omega), if_pos hro]
    rw [e1, e2]
    exact ⟨rfl, rfl⟩
  | true =>
    rw [out_run he hs hro, out_run he' hs' hro, h.1]
    split
    · exact ⟨rfl, h.2⟩
    · exact ⟨rfl, rfl⟩
/-- Told by other names. -/
theorem rn_law {f : Int → Int} {regs regs' : Int} {bs : List Bf} {os : List Lop} {rs : Rws} (H : Rn f regs regs') (he : (checkM regs bs os).2 = 0) (hs : stepsM os ≤ 5000) (h0 : 0 ≤ regs') (h64' : regs' ≤ 64) :
    (outR regs' bs (os.map (rnO f)) rs).1 = (outR regs bs os rs).1 ∧ (outR regs' bs (os.map (rnO f)) rs).2.1 = (outR regs bs os rs).2.1 := by
  obtain ⟨hp, hpS⟩ := tree_of he
  obtain ⟨_, hr0, h64, _, hol, hh, _⟩ := check_ok he
  have hS := rn_safe H _ [] hpS (fun x hx => by cases hx)
  have hF : os.map (rnO f) = ((treeOf os).rn f).flat := by rw [rn_flat H, ← hp]
  have he' : (checkM regs' bs (os.map (rnO f))).2 = 0 := by
    unfold checkM
    rw [head_regs hh h0 h64' (by rw [List.length_map]; omega)]
    simp only
    obtain ⟨c', d', k1, k2, k3⟩ := rrun_rn H [] os 0 _ _ (by rw [List.append_nil]; exact rrun_all he) (CkR.init H)
    have := k3 0 []
    rw [List.append_nil] at this
    rw [this]
    exact rrun_nil k1 k2
  have hc := cnt_steps hpS (by rw [← hp]; omega)
  rw [← hp] at hc
  refine out_two he he' (by omega) ?_ ?_
  · rw [hF, steps_cnt hS, rn_cnt]
    unfold capM
    split <;> omega
  · have ht : treeOf (os.map (rnO f)) = (treeOf os).rn f := by rw [hF]; exact tree_eq hS
    rw [ht]
    have := exec_rn H h64 h64' (treeOf os) [] 0 0 _ _ hpS (rr_init H h64 h64' bs rs)
    exact ⟨this.1, this.2.b⟩
/-- With a register that nothing takes. -/
theorem unused_law {regs n : Int} {bs : List Bf} {os : List Lop} {rs : Rws} {k : Nat} (he : (checkM regs bs os).2 = 0) (hs : stepsM os ≤ 5000) (h62 : regs ≤ 62) (hk : k ≤ os.length) (hl : os.length ≤ 60) :
    (outR (regs + 2) bs (os.take k ++ unC regs n :: os.drop k) rs).1 = (outR regs bs os rs).1 ∧ (outR (regs + 2) bs (os.take k ++ unC regs n :: os.drop k) rs).2.1 = (outR regs bs os rs).2.1 := by
  obtain ⟨hp, hpS⟩ := tree_of he
  obtain ⟨_, hr0, h64, _, hol, hh, _⟩ := check_ok he
  have H := Rn.idn (show regs ≤ regs + 2 by omega)
  have hS := ins_safe (n := n) hr0 (show regs < regs + 2 by omega) _ k [] hpS (fun x hx => by cases hx)
  have hF : os.take k ++ unC regs n :: os.drop k = ((treeOf os).ins (unC regs n) k).flat := by rw [ins_flat _ _ _ (by rw [← hp]; exact hk), ← hp]
  have hid : ∀ l : List Lop, l.map (rnO fun r => r) = l := fun l => by
    rw [show (rnO fun r => r) = id from rfl]; simp
  have he' : (checkM (regs + 2) bs (os.take k ++ unC regs n :: os.drop k)).2 = 0 := by
    unfold checkM
    rw [head_regs hh (by omega) (by omega) (by simp; omega)]
    simp only
    obtain ⟨c', d', k1, k2, k3⟩ := rrun_rn H (os.drop k) (os.take k) 0 _ _ (by rw [List.take_append_drop]; exact rrun_all he) (CkR.init H)
    rw [hid] at k3
    rw [k3]
    have hst : rstep (regs + 2) bs d' (unC regs n) = .inr ⟨d'.made.set regs.toNat true, d'.loops⟩ := by
      unfold rstep
      rw [rf_unC bs n hr0 (by omega)]
      simp only [if_true]
      rw [if_neg (by show ¬ cm .eql 1 17 = true; decide), if_neg, if_neg (by show ¬ (cm .eql 1 16 && _) = true; simp [cm]), if_neg (by show ¬ (cm .eql 1 16 && _) = true; simp [cm]), if_neg (by show ¬ ([] : List Int).any _ = true; simp)]
      · rfl
      · show ¬ [regs].any (fun r => d'.loops.contains r) = true
        intro h
        simp only [List.any_cons, List.any_nil, Bool.or_false] at h
        rw [List.contains_iff_mem, k1.lp] at h
        obtain ⟨q, hq, hq2⟩ := List.mem_map.1 h
        have := k1.lr q hq
        omega
    unfold rrun
    rw [hst]
    simp only
    have k4 : CkR (fun r => r) regs (regs + 2) c' ⟨d'.made.set regs.toNat true, d'.loops⟩ := by
      refine ⟨k1.lp, k1.lr, k1.ml, by simp only; rw [List.length_set]; exact k1.dl, fun r r0 r1 => ?_⟩
      simp only
      rw [mdR_set hr0 r0 (by have := k1.dl; omega), if_neg (by omega)]
      exact k1.md r r0 r1
    obtain ⟨c2, d2, q1, q2, q3⟩ := rrun_rn H [] (os.drop k) _ c' _ (by rw [List.append_nil]; exact k2) k4
    have := q3 (0 + (os.take k).length + 1) []
    rw [List.append_nil, hid] at this
    rw [this]
    exact rrun_nil q1 q2
  have hc := cnt_steps hpS (by rw [← hp]; omega)
  rw [← hp] at hc
  refine out_two he he' (by omega) ?_ ?_
  · rw [hF, steps_cnt hS]
    have := ins_cnt (unC regs n) (treeOf os) k
    unfold capM
    split <;> omega
  · have ht : treeOf (os.take k ++ unC regs n :: os.drop k) = (treeOf os).ins (unC regs n) k := by rw [hF]; exact tree_eq hS
    rw [ht]
    have := exec_ins (n := n) hr0 (show regs < regs + 2 by omega) (by omega) (treeOf os) k [] 0 0 _ _ hpS (rr_init H h64 (by omega) bs rs)
    exact ⟨this.1, this.2.b⟩
/-- keysmithlaw12.other. -/
def othR (regs r : Int) : Int := if r < 0 then -1 else regs - r
theorem oth_Rn {regs : Int} : Rn (othR regs) regs (regs + 1) := by
  refine ⟨by simp [othR], fun r h0 h1 => ?_, fun r s h0 h1 g0 g1 e => ?_⟩
  · unfold othR; rw [if_neg (by omega)]; omega
  · unfold othR at e; rw [if_neg (by omega), if_neg (by omega)] at e; omega
end Go.Proofs.Ytkjlgapkcdcmgaa
