/- Plain laws of runs. -/
import Derived.Test.YtkjlgapkcdcmgaaLmC
set_option linter.unusedVariables false
set_option linter.unusedSimpArgs false
namespace Go.Proofs.Ytkjlgapkcdcmgaa
open Go Go.RowKit SL
/-- What is known of a run's end. -/
theorem run_facts {regs : Int} {bs : List Bf} {os : List Lop} {rs : Rws} {p : Pg} {x : RS × Bool} (he : (checkM regs bs os).2 = 0) (hro : rowsM bs rs = true) (hst : stepsM os ≤ 16777216) (hp : os = p.flat) (hpS : p.Safe regs bs []) (hx : p.exec 0 (initL bs rs) = x) :
    (x.2 = true → (x.1.l.length : Int) = stepsM os) ∧ (x.2 = false → (x.1.l.length : Int) < stepsM os) ∧ (∀ e ∈ x.1.l, EvOk os bs e) ∧
    (∀ (i : Nat) (b : Bf) (r : Value × List Int), bs[i]? = some b → rs[i]? = some r → (bufAt x.1 (i : Int)).length = b.size.toNat ∧ (b.kind = 1 → bufAt x.1 (i : Int) = r.2)) := by
  obtain ⟨_, _, _, _, _, hh, hrf⟩ := check_ok he
  obtain ⟨hrl, hok⟩ := rows_ok hro
  have hsz := buf_size hh
  have h1 := exec_len p 0 (initL bs rs)
  have h2 := cnt_steps hpS (by rw [← hp]; exact hst)
  rw [← hp] at h2
  rw [hx] at h1
  have h3 : (initL bs rs).l.length = 0 := rfl
  rw [h3] at h1
  have hk := keep_all hpS hp (initL bs rs)
  rw [hx] at hk
  have hb : ∀ (i : Nat) (b : Bf) (r : Value × List Int), bs[i]? = some b → rs[i]? = some r → bufAt (initL bs rs) (i : Int) = initRow b r.2 := fun i b r hbi hri => by
    show ((initB bs rs)[(i : Int).toNat]?).getD [] = _
    rw [Int.toNat_natCast, initB_at hbi hri]; rfl
  refine ⟨fun h => by have := h1.1 h; omega, fun h => by have := h1.2 h; omega, hk.ev (fun k h0 hlt => ?_) (fun e he => by cases he), fun i b r hbi hri => ?_⟩
  · have hkn : k.toNat < bs.length := by omega
    obtain ⟨b, hbb⟩ : ∃ b, bs[k.toNat]? = some b := ⟨_, List.getElem?_eq_getElem hkn⟩
    obtain ⟨r, hrr⟩ : ∃ r, rs[k.toNat]? = some r := ⟨_, List.getElem?_eq_getElem (by omega)⟩
    have e : k = (k.toNat : Int) := by omega
    have hz := hsz b (List.mem_of_getElem? hbb)
    rw [e, hb _ b r hbb hrr, initRow_len (okRow_le (hok _ b r hbb hrr) hz.1)]
    unfold bAt
    rw [Int.toNat_natCast, hbb]
    simp only [Option.getD_some]
    omega
  · have hz := hsz b (List.mem_of_getElem? hbi)
    have hle := okRow_le (hok _ b r hbi hri) hz.1
    refine ⟨by rw [hk.len, hb i b r hbi hri, initRow_len hle], fun hk1 => ?_⟩
    rw [hk.same i (by unfold bAt; rw [Int.toNat_natCast, hbi]; exact hk1), hb i b r hbi hri]
    have h5 := hok _ b r hbi hri
    unfold okRow at h5
    rw [if_neg (by rw [cm_no (by omega)]; simp)] at h5
    have h6 : (r.2.length : Int) = b.size := by simpa [cm] using h5
    unfold initRow
    rw [show b.size.toNat - r.2.length = 0 by omega]
    simp
theorem U64.w {n : Int} (h : U64 n) : W64 n := ⟨h.1, by have := h.2; omega⟩
end Go.Proofs.Ytkjlgapkcdcmgaa
namespace Go.Proofs.Ytkjlgapkcdcmgaa
open Go Go.RowKit SL

/-- Registers that agree where they are made. -/
def AgR (regs : Int) (md : List Bool) (r q : List Int) : Prop := regs.toNat ≤ r.length ∧ regs.toNat ≤ q.length ∧ ∀ k : Nat, md[k]? = some true → r[k]? = q[k]?
/-- Buffers, and what is seen, agree; the second run's places stand d further on, behind what was seen ahead. -/
def AgB (d : Nat) (B : List Ev) (s t : RS) : Prop := t.bufs = s.bufs ∧ t.l = B ++ s.l.map (fun e => ⟨e.op + d, e.at_⟩)
theorem AgR.rAt {regs : Int} {md : List Bool} {r q : List Int} (h : AgR regs md r q) {k : Int} (hk : k < 0 ∨ mdAt md k = true) : rAt r k = rAt q k := by
  unfold Go.Proofs.Ytkjlgapkcdcmgaa.rAt
  by_cases h0 : k < 0
  · rw [if_pos (cm_lo h0), if_pos (cm_lo h0)]
  · rw [if_neg (by rw [cm_lo' (by omega)]; simp), if_neg (by rw [cm_lo' (by omega)]; simp)]
    have hm : mdAt md k = true := by rcases hk with h1 | h1; (· omega); (· exact h1)
    have : md[k.toNat]? = some true := by
      unfold mdAt at hm
      cases hx : md[k.toNat]? with
      | none => rw [hx] at hm; cases hm
      | some x => rw [hx] at hm; simp at hm; rw [hm]
    rw [h.2.2 _ this]
theorem AgR.put {regs : Int} {md : List Bool} {r q : List Int} (h : AgR regs md r q) {k v : Int} (hk : 0 ≤ k → k < regs) : AgR regs (if cm .geq k 0 then md.set k.toNat true else md) (putR r k v) (putR q k v) := by
  unfold putR
  cases hc : cm .geq k 0 with
  | false => exact h
  | true =>
    have h0 : 0 ≤ k := by simpa [cm] using hc
    simp only [if_true]
    have hk := hk h0
    refine ⟨by rw [List.length_set]; exact h.1, by rw [List.length_set]; exact h.2.1, fun j hj => ?_⟩
    rw [List.getElem?_set, List.getElem?_set]
    rw [List.getElem?_set] at hj
    by_cases e : k.toNat = j
    · subst e
      rw [if_pos rfl, if_pos rfl, if_pos (by have := h.1; omega), if_pos (by have := h.2.1; omega)]
    · rw [if_neg e, if_neg e]
      rw [if_neg e] at hj
      exact h.2.2 j hj
theorem setAll_two (md : List Bool) (d e : Int) : setAll md ([d, e].filter (fun r => cm .geq r 0)) = (if cm .geq e 0 then (if cm .geq d 0 then md.set d.toNat true else md).set e.toNat true else (if cm .geq d 0 then md.set d.toNat true else md)) := by
  unfold setAll
  cases h1 : cm .geq d 0 <;> cases h2 : cm .geq e 0 <;> simp [h1, h2]
/-- What an operation that may be tells of the checker. -/
theorem rstep_op {regs : Int} {bs : List Bf} {c c' : Ck} {o : Lop} (h : rstep regs bs c o = .inr c') (h17 : o.k ≠ 17) : rfields regs bs o = true ∧ (∀ r ∈ takesM o, mdAt c.made r = true) ∧ c'.made = setAll c.made (makesM o) ∧ (o.k = 16 → mdAt c.made o.d = false ∧ c'.loops = c.loops ++ [o.d]) ∧ (o.k ≠ 16 → c'.loops = c.loops) := by
  unfold rstep at h
  cases hf : rfields regs bs o with
  | false => rw [hf] at h; cases h
  | true =>
  rw [hf] at h
  simp only [if_true] at h
  rw [if_neg (by rw [cm_no h17]; simp)] at h
  split at h
  · cases h
  · split at h
    · cases h
    · rename_i h3
      split at h
      · cases h
      · split at h
        · cases h
        · rename_i h5
          cases h
          refine ⟨rfl, fun r hr => ?_, rfl, fun h16 => ?_, fun h16 => ?_⟩
          · cases hm : mdAt c.made r with
            | true => rfl
            | false => exact absurd (List.any_eq_true.2 ⟨r, hr, by rw [hm]; rfl⟩) h5
          · rw [cm_yes h16, Bool.true_and] at h3
            exact ⟨by simpa using h3, by simp only; rw [if_pos (cm_yes h16)]⟩
          · simp only; rw [if_neg (by rw [cm_no h16]; simp)]
def AgO (regs : Int) (md : List Bool) (d : Nat) (B : List Ev) (x y : Option RS) : Prop := (x = none ∧ y = none) ∨ ∃ s t, x = some s ∧ y = some t ∧ AgR regs md s.r t.r ∧ AgB d B s t
theorem stepO_ag {regs : Int} {bs : List Bf} {c c' : Ck} {o : Lop} {i d : Nat} {B : List Ev} {s t : RS} (h : rstep regs bs c o = .inr c') (h16 : o.k ≠ 16) (h17 : o.k ≠ 17) (hr : AgR regs c.made s.r t.r) (hb : AgB d B s t) : AgO regs c'.made d B (stepO o i s) (stepO o (i + d) t) := by
  obtain ⟨hf, htk, hmk, _, _⟩ := rstep_op h h17
  have hab : ∀ k, k ∈ [o.a, o.b, o.c] → rAt s.r k = rAt t.r k := fun k hk => hr.rAt (by
    rcases Int.lt_or_le k 0 with h0 | h0
    · exact .inl h0
    · exact .inr (htk k (by rw [takes_filter hf]; exact List.mem_filter.2 ⟨hk, cm_ge h0⟩)))
  have hlt : ∀ k, k ∈ [o.d, o.e] → 0 ≤ k → k < regs := fun k hk h0 => (rf_makes hf k (by rw [makes_filter hf]; exact List.mem_filter.2 ⟨hk, cm_ge h0⟩)).2
  have ha := hab o.a (by simp)
  have hbb := hab o.b (by simp)
  have hcc := hab o.c (by simp)
  have hbuf : ∀ k, bufAt t k = bufAt s k := fun k => by unfold bufAt; rw [hb.1]
  have hmk2 : c'.made = (if cm .geq o.e 0 then (if cm .geq o.d 0 then c.made.set o.d.toNat true else c.made).set o.e.toNat true else (if cm .geq o.d 0 then c.made.set o.d.toNat true else c.made)) := by rw [hmk, makes_filter hf, setAll_two]
  have hev : ∀ n : Int, t.l ++ [(⟨((i + d : Nat) : Int), n⟩ : Ev)] = B ++ (s.l ++ [(⟨(i : Int), n⟩ : Ev)]).map (fun e => ⟨e.op + d, e.at_⟩) := fun n => by
    rw [hb.2, List.map_append, List.append_assoc]
    simp
  unfold stepO
  cases hm : (cm .eql o.k 14 || cm .eql o.k 15) with
  | true =>
    simp only [if_true]
    obtain ⟨_, _, hoe, hod⟩ := mem_fields hf hm
    have he : cm .geq o.e 0 = false := by rw [hoe]; rfl
    rw [he] at hmk2
    simp only [Bool.false_eq_true, if_false] at hmk2
    rw [← ha, hbuf]
    split
    · exact .inl ⟨rfl, rfl⟩
    · refine .inr ⟨_, _, rfl, rfl, ?_, ?_, hev _⟩
      · cases hk15 : cm .eql o.k 15 with
        | true =>
          simp only [if_true]
          rw [hmk2, hod (cm_yes' hk15)]
          exact hr
        | false =>
          simp only [Bool.false_eq_true, if_false]
          rw [hmk2]
          exact hr.put (hlt o.d (by simp))
      · cases hk15 : cm .eql o.k 15 with
        | true => simp only [if_true]; rw [hb.1, hbb]
        | false => exact hb.1
  | false =>
    simp only [Bool.false_eq_true, if_false]
    refine .inr ⟨_, _, rfl, rfl, ?_, hb.1, hev _⟩
    rw [← ha, ← hbb, ← hcc, hmk2]
    have h1 := hr.put (v := (makeV o (rAt s.r o.a) (rAt s.r o.b) (cm .eql (ar .rem .u64 (rAt s.r o.c) 2) 1)).1) (hlt o.d (by simp))
    exact h1.put (hlt o.e (by simp))
theorem AgR.sub {regs : Int} {md md' : List Bool} {r q : List Int} (h : AgR regs md r q) (hs : ∀ k : Nat, md'[k]? = some true → md[k]? = some true) : AgR regs md' r q := ⟨h.1, h.2.1, fun k hk => h.2.2 k (hs k hk)⟩
theorem set_mono {md : List Bool} {j k : Nat} (h : md[k]? = some true) : (md.set j true)[k]? = some true := by
  rw [List.getElem?_set]
  split
  · rename_i e
    subst e
    rw [if_pos (List.getElem?_eq_some_iff.1 h).1]
  · exact h
theorem setAll_mono : ∀ (rs : List Int) (md : List Bool) {k : Nat}, md[k]? = some true → (setAll md rs)[k]? = some true
  | [], md, k, h => h
  | r :: rs, md, k, h => setAll_mono rs (md.set r.toNat true) (set_mono h)
theorem exec_ag {regs : Int} {bs : List Bf} : ∀ (p : Pg) (ls : List Int) (c : Ck) (i : Nat) (rest : List Lop), p.Safe regs bs ls → (rrun regs bs (p.flat ++ rest) i c).2 = 0 →
    ∃ c' i', (rrun regs bs rest i' c').2 = 0 ∧ c'.loops = c.loops ∧ (∀ k : Nat, c.made[k]? = some true → c'.made[k]? = some true) ∧
      ∀ (j d : Nat) (B : List Ev) (s t : RS), AgR regs c.made s.r t.r → AgB d B s t →
        (p.exec (j + d) t).2 = (p.exec j s).2 ∧ AgB d B (p.exec j s).1 (p.exec (j + d) t).1 ∧ ((p.exec j s).2 = true → AgR regs c'.made (p.exec j s).1.r (p.exec (j + d) t).1.r)
  | .nil, ls, c, i, rest, _, h => ⟨c, i, h, rfl, fun _ h => h, fun j d B s t hr hb => ⟨rfl, hb, fun _ => hr⟩⟩
  | .op o r, ls, c, i, rest, hs, h => by
    obtain ⟨hf, h16, h17, _, hrS⟩ := hs
    have h' : (rrun regs bs (o :: (r.flat ++ rest)) i c).2 = 0 := h
    unfold rrun at h'
    cases hst : rstep regs bs c o with
    | inl e => rw [hst] at h'; have := rstep_ne hst; simp only at h'; omega
    | inr c1 =>
      rw [hst] at h'
      simp only at h'
      obtain ⟨_, _, hmk, _, hlp⟩ := rstep_op hst h17
      obtain ⟨c', i', k1, k2, k3, k4⟩ := exec_ag r ls c1 (i + 1) rest hrS h'
      refine ⟨c', i', k1, k2.trans (hlp h16), fun k hk => k3 k (by rw [hmk]; exact setAll_mono _ _ hk), fun j d B s t hr hb => ?_⟩
      have hag := stepO_ag (i := j) hst h16 h17 hr hb
      unfold Pg.exec
      rcases hag with ⟨e1, e2⟩ | ⟨s', t', e1, e2, e3, e4⟩
      · rw [e1, e2]; exact ⟨rfl, hb, fun h => by cases h⟩
      · rw [e1, e2]
        have := k4 (j + 1) d B s' t' e3 e4
        rw [show j + 1 + d = j + d + 1 by omega] at this
        exact this
  | .loop o b r, ls, c, i, rest, hs, h => by
    obtain ⟨hf, h16, _, hbS, hrS⟩ := hs
    have h' : (rrun regs bs (o :: (b.flat ++ (endO :: (r.flat ++ rest)))) i c).2 = 0 := by
      have e : (Pg.loop o b r).flat ++ rest = o :: (b.flat ++ (endO :: (r.flat ++ rest))) := by simp [Pg.flat]
      rw [e] at h; exact h
    unfold rrun at h'
    cases hst : rstep regs bs c o with
    | inl e => rw [hst] at h'; have := rstep_ne hst; simp only at h'; omega
    | inr c1 =>
      rw [hst] at h'
      simp only at h'
      obtain ⟨_, _, hmk, hl16, _⟩ := rstep_op hst (by omega)
      obtain ⟨hmd, hlp1⟩ := hl16 h16
      have him := loop_imm hf h16
      have hdr := rf_makes hf o.d (by rw [makes_loop h16]; simp)
      have hc1 : c1.made = c.made.set o.d.toNat true := by rw [hmk, makes_loop h16]; rfl
      obtain ⟨c2, i2, k1, k2, k3, k4⟩ := exec_ag b _ c1 (i + 1) _ hbS h'
      unfold rrun at k1
      cases hse : rstep regs bs c2 endO with
      | inl e => rw [hse] at k1; have := rstep_ne hse; simp only at k1; omega
      | inr c3 =>
        rw [hse] at k1
        simp only at k1
        have hc3 : c3 = ⟨c2.made.set o.d.toNat false, c.loops⟩ := by
          unfold rstep at hse
          cases hfe : rfields regs bs endO with
          | false => rw [hfe] at hse; cases hse
          | true =>
            rw [hfe] at hse
            simp only [if_true] at hse
            rw [if_pos (by rfl), k2, hlp1] at hse
            simp at hse
            exact hse.symm
        obtain ⟨c', i', q1, q2, q3, q4⟩ := exec_ag r ls c3 (i2 + 1) rest hrS k1
        have hne : ∀ k : Nat, c.made[k]? = some true → k ≠ o.d.toNat := fun k hk e => by
          rw [e] at hk
          unfold mdAt at hmd
          rw [hk] at hmd
          cases hmd
        have hm2 : ∀ k : Nat, c.made[k]? = some true → c2.made[k]? = some true := fun k hk => k3 k (by rw [hc1]; exact set_mono hk)
        refine ⟨c', i', q1, by rw [q2, hc3], fun k hk => q3 k (by
          rw [hc3]; simp only
          rw [List.getElem?_set_ne (fun e => hne k hk e.symm)]; exact hm2 k hk), fun j d B s t hr hb => ?_⟩
        have it : ∀ (m n : Nat) (s t : RS), AgR regs c.made s.r t.r → AgB d B s t →
            (iter (fun n s => b.exec (j + d + 1) ⟨s.r.set o.d.toNat n, s.bufs, s.l ++ [⟨(j + d : Nat), -1⟩]⟩) n (m + 1) t).2 = (iter (fun n s => b.exec (j + 1) ⟨s.r.set o.d.toNat n, s.bufs, s.l ++ [⟨j, -1⟩]⟩) n (m + 1) s).2 ∧
            AgB d B (iter (fun n s => b.exec (j + 1) ⟨s.r.set o.d.toNat n, s.bufs, s.l ++ [⟨j, -1⟩]⟩) n (m + 1) s).1 (iter (fun n s => b.exec (j + d + 1) ⟨s.r.set o.d.toNat n, s.bufs, s.l ++ [⟨(j + d : Nat), -1⟩]⟩) n (m + 1) t).1 ∧
            ((iter (fun n s => b.exec (j + 1) ⟨s.r.set o.d.toNat n, s.bufs, s.l ++ [⟨j, -1⟩]⟩) n (m + 1) s).2 = true → AgR regs c2.made (iter (fun n s => b.exec (j + 1) ⟨s.r.set o.d.toNat n, s.bufs, s.l ++ [⟨j, -1⟩]⟩) n (m + 1) s).1.r (iter (fun n s => b.exec (j + d + 1) ⟨s.r.set o.d.toNat n, s.bufs, s.l ++ [⟨(j + d : Nat), -1⟩]⟩) n (m + 1) t).1.r) := by
          intro m
          induction m with
          | zero =>
            intro n s t hr hb
            have h1 : AgR regs c1.made (s.r.set o.d.toNat (n : Int)) (t.r.set o.d.toNat (n : Int)) := by
              have := hr.put (k := o.d) (v := (n : Int)) (fun _ => hdr.2)
              rw [putR_ge hdr.1, putR_ge hdr.1, if_pos (cm_ge hdr.1), ← hc1] at this; exact this
            have h2 : AgB d B ⟨s.r.set o.d.toNat (n : Int), s.bufs, s.l ++ [⟨(j : Nat), -1⟩]⟩ ⟨t.r.set o.d.toNat (n : Int), t.bufs, t.l ++ [⟨(j + d : Nat), -1⟩]⟩ := ⟨hb.1, by simp only; rw [hb.2, List.map_append, List.append_assoc]; simp⟩
            have h3 := k4 (j + 1) d B _ _ h1 h2
            rw [show j + 1 + d = j + d + 1 by omega] at h3
            revert h3
            simp only [iter]
            cases b.exec (j + 1) ⟨s.r.set o.d.toNat (n : Int), s.bufs, s.l ++ [⟨(j : Nat), -1⟩]⟩ with
            | mk s2 ok =>
              cases b.exec (j + d + 1) ⟨t.r.set o.d.toNat (n : Int), t.bufs, t.l ++ [⟨(j + d : Nat), -1⟩]⟩ with
              | mk t2 ok2 =>
                rintro ⟨g1, g2, g3⟩
                simp only at g1 g2 g3
                subst g1
                cases ok2 with
                | false => exact ⟨rfl, g2, fun h => by cases h⟩
                | true => exact ⟨rfl, g2, g3⟩
          | succ m ih =>
            intro n s t hr hb
            have h1 : AgR regs c1.made (s.r.set o.d.toNat (n : Int)) (t.r.set o.d.toNat (n : Int)) := by
              have := hr.put (k := o.d) (v := (n : Int)) (fun _ => hdr.2)
              rw [putR_ge hdr.1, putR_ge hdr.1, if_pos (cm_ge hdr.1), ← hc1] at this; exact this
            have h2 : AgB d B ⟨s.r.set o.d.toNat (n : Int), s.bufs, s.l ++ [⟨(j : Nat), -1⟩]⟩ ⟨t.r.set o.d.toNat (n : Int), t.bufs, t.l ++ [⟨(j + d : Nat), -1⟩]⟩ := ⟨hb.1, by simp only; rw [hb.2, List.map_append, List.append_assoc]; simp⟩
            have h3 := k4 (j + 1) d B _ _ h1 h2
            rw [show j + 1 + d = j + d + 1 by omega] at h3
            revert h3
            rw [iter.eq_def _ n (m + 1 + 1) t, iter.eq_def _ n (m + 1 + 1) s]
            simp only
            cases b.exec (j + 1) ⟨s.r.set o.d.toNat (n : Int), s.bufs, s.l ++ [⟨(j : Nat), -1⟩]⟩ with
            | mk s2 ok =>
              cases b.exec (j + d + 1) ⟨t.r.set o.d.toNat (n : Int), t.bufs, t.l ++ [⟨(j + d : Nat), -1⟩]⟩ with
              | mk t2 ok2 =>
                rintro ⟨g1, g2, g3⟩
                simp only at g1 g2 g3
                subst g1
                cases ok2 with
                | false => exact ⟨rfl, g2, fun h => by cases h⟩
                | true => exact ih (n + 1) s2 t2 ((g3 rfl).sub hm2) g2
        obtain ⟨imm, himm⟩ : ∃ imm : Nat, o.imm.toNat = imm + 1 := ⟨o.imm.toNat - 1, by omega⟩
        have h3 := it imm 0 s t hr hb
        unfold Pg.exec
        rw [himm]
        revert h3
        cases iter (fun n s => b.exec (j + 1) ⟨s.r.set o.d.toNat n, s.bufs, s.l ++ [⟨j, -1⟩]⟩) 0 (imm + 1) s with
        | mk s2 ok =>
          cases iter (fun n s => b.exec (j + d + 1) ⟨s.r.set o.d.toNat n, s.bufs, s.l ++ [⟨(j + d : Nat), -1⟩]⟩) 0 (imm + 1) t with
          | mk t2 ok2 =>
            rintro ⟨g1, g2, g3⟩
            simp only at g1 g2 g3
            subst g1
            cases ok2 with
            | false => exact ⟨rfl, g2, fun h => by cases h⟩
            | true =>
              have := q4 (j + b.flat.length + 2) d B s2 t2 ((g3 rfl).sub (fun k hk => by
                rw [hc3] at hk
                simp only at hk
                rw [List.getElem?_set] at hk
                split at hk
                · split at hk
                  · cases hk
                  · cases hk
                · exact hk)) g2
              rw [show j + b.flat.length + 2 + d = j + d + b.flat.length + 2 by omega] at this
              exact this
theorem rrun_all {regs : Int} {bs : List Bf} {os : List Lop} (he : (checkM regs bs os).2 = 0) : (rrun regs bs os 0 ⟨List.replicate regs.toNat false, []⟩).2 = 0 := by
  obtain ⟨_, _, _, _, _, hh, _⟩ := check_ok he
  have := he; unfold checkM at this; rw [hh] at this; exact this
theorem none_made (n k : Nat) : (List.replicate n false)[k]? ≠ some true := by
  intro h
  rw [List.getElem?_replicate] at h
  split at h <;> cases h
/-- The two runs, limb's and the document's, end alike. -/
theorem runs_agree {regs : Int} {bs : List Bf} {os : List Lop} {rs : Rws} {p : Pg} {n : Nat} {x : RS × Bool} (he : (checkM regs bs os).2 = 0) (hp : os = p.flat) (hpS : p.Safe regs bs []) (h : Goes os ⟨0, true, initS regs bs rs⟩ n (.inr x)) :
    x.1.bufs = (p.exec 0 (initL bs rs)).1.bufs ∧ x.1.l = (p.exec 0 (initL bs rs)).1.l ∧ x.2 = (p.exec 0 (initL bs rs)).2 := by
  obtain ⟨p', hp', hpS', hgo⟩ := goes_all he
  have e : p' = p := by
    have h1 := tree_eq hpS'
    have h2 := tree_eq hpS
    rw [← hp'] at h1
    rw [← hp] at h2
    rw [← h1, h2]
  subst e
  obtain ⟨n0, hn0⟩ := hgo (initS regs bs rs) (by simp [initS])
  have hx := h.one hn0
  obtain ⟨_, h0, h64, _⟩ := check_ok he
  have hrun := rrun_all he
  obtain ⟨c', i', _, _, _, k4⟩ := exec_ag p' [] ⟨List.replicate regs.toNat false, []⟩ 0 [] hpS' (by rw [List.append_nil, ← hp]; exact hrun)
  have := k4 0 0 [] (initL bs rs) (initS regs bs rs) ⟨by simp [initL]; omega, by simp [initS], fun k hk => absurd hk (none_made _ _)⟩ ⟨rfl, rfl⟩
  obtain ⟨g1, g2, _⟩ := this
  rw [hx]
  refine ⟨g2.1, ?_, g1⟩
  rw [g2.2]
  simp
end Go.Proofs.Ytkjlgapkcdcmgaa
namespace Go.Proofs.Ytkjlgapkcdcmgaa
open Go Go.RowKit SL

/-- One tree behind another. -/
def Pg.app : Pg → Pg → Pg
  | .nil, q => q
  | .op o r, q => .op o (r.app q)
  | .loop o b r, q => .loop o b (r.app q)
/-- A checker that knows more made. -/
def Ck.Le (c c' : Ck) : Prop := c'.loops = c.loops ∧ ∀ k : Nat, c.made[k]? = some true → c'.made[k]? = some true
end Go.Proofs.Ytkjlgapkcdcmgaa
namespace Go.Proofs.Ytkjlgapkcdcmgaa
open Go Go.RowKit SL

/-- What limb.Run answers: the error, the rows, what is seen. -/
def outR (regs : Int) (bs : List Bf) (os : List Lop) (rs : Rws) : Int × List (List Int) × List Ev :=
  if (checkM regs bs os).2 ≠ 0 then ((checkM regs bs os).2, [], [])
  else if 16777216 < stepsM os then (10, [], [])
  else if rowsM bs rs = false then (2, [], [])
  else if ((treeOf os).exec 0 (initL bs rs)).2 = true then (0, ((treeOf os).exec 0 (initL bs rs)).1.bufs, ((treeOf os).exec 0 (initL bs rs)).1.l)
  else (11, [], ((treeOf os).exec 0 (initL bs rs)).1.l)
/-- .. where it lies. -/
theorem run_read {regs : Int} {bs : List Bf} {os : List Lop} {rs : Rws} {u : Value} {B : Hp} (hu : lrunR regs bs os rs u B) :
    ∃ (yv mv : Value) (ry : Rws), u = shut [yv, mv, .int .i64 (outR regs bs os rs).1] ∧ ry.map (·.2) = (outR regs bs os rs).2.1 ∧ (∀ r ∈ ry, RngR r.2) ∧
      ∀ (w0 w : World) (A : List Nat) (M : Hp), At w0 A M w → (∀ b ∈ B, b ∈ M) → RdR w [] yv ry ∧ Rd w [] mv (outR regs bs os rs).2.2.length ((outR regs bs os rs).2.2.flatMap encE) := by
  have nl : ∀ w : World, RdR w [] nilV [] ∧ Rd w [] nilV ([] : List Ev).length (([] : List Ev).flatMap encE) := fun w => ⟨⟨⟨SlV.nil, fun h => absurd h (by simp)⟩, fun r hr => (by cases hr)⟩, ⟨SlV.nil, fun h => absurd h (by simp)⟩⟩
  unfold lrunR at hu
  unfold outR
  split at hu
  · rename_i h1
    obtain ⟨rfl, rfl⟩ := hu
    rw [if_pos h1]
    exact ⟨nilV, nilV, [], rfl, rfl, fun r hr => (by cases hr), fun w0 w A M _ _ => nl w⟩
  · rename_i h1
    rw [if_neg h1]
    split at hu
    · rename_i h2
      obtain ⟨rfl, rfl⟩ := hu
      rw [if_pos h2]
      exact ⟨nilV, nilV, [], rfl, rfl, fun r hr => (by cases hr), fun w0 w A M _ _ => nl w⟩
    · rename_i h2
      rw [if_neg h2]
      split at hu
      · rename_i h3
        obtain ⟨rfl, rfl⟩ := hu
        rw [if_pos h3]
        exact ⟨nilV, nilV, [], rfl, rfl, fun r hr => (by cases hr), fun w0 w A M _ _ => nl w⟩
      · rename_i h3
        rw [if_neg h3]
        obtain ⟨p, x, h, hp, hpS, hx, g, hxb, hd⟩ := hu
        have hte := tree_eq hpS
        rw [← hp] at hte
        rw [hte, hx]
        rcases hd with ⟨ok, rfl, rfl⟩ | ⟨ok, rfl, rfl⟩
        · rw [if_pos ok]
          refine ⟨_, _, rwsOf x.1.bufs h.ys, rfl, rwsOf_snd g.b.1, fun r hr => ?_, fun w0 w A M hw hB => ⟨?_, ?_⟩⟩
          · have : r.2 ∈ (rwsOf x.1.bufs h.ys).map (·.2) := List.mem_map.2 ⟨r, hr, rfl⟩
            rw [rwsOf_snd g.b.1] at this
            exact g.bw _ this
          · exact own_rdR g.b rfl g.y hw (fun x hx => hB _ (by simp [hx])) (fun x hx => hB _ (by simp [hx]))
          · exact g.l.rdm (T := 55) hw (fun x hx => hB _ (by simp [hx]))
        · rw [if_neg (by rw [ok]; decide)]
          exact ⟨_, _, [], rfl, rfl, fun r hr => (by cases hr), fun w0 w A M hw hB => ⟨(nl w).1, g.l.rdm (T := 55) hw (fun x hx => hB _ hx)⟩⟩
/-- What is known of it. -/
theorem tree_of {regs : Int} {bs : List Bf} {os : List Lop} (he : (checkM regs bs os).2 = 0) : os = (treeOf os).flat ∧ (treeOf os).Safe regs bs [] := by
  obtain ⟨p, hp, hpS, _⟩ := goes_all he
  have hte := tree_eq hpS
  rw [← hp] at hte
  rw [hte]
  exact ⟨hp, hpS⟩
/-- A run's outcome, where it runs. -/
theorem out_run {regs : Int} {bs : List Bf} {os : List Lop} {rs : Rws} (he : (checkM regs bs os).2 = 0) (hst : stepsM os ≤ 16777216) (hro : rowsM bs rs = true) :
    outR regs bs os rs = if ((treeOf os).exec 0 (initL bs rs)).2 = true then (0, ((treeOf os).exec 0 (initL bs rs)).1.bufs, ((treeOf os).exec 0 (initL bs rs)).1.l) else (11, [], ((treeOf os).exec 0 (initL bs rs)).1.l) := by
  unfold outR
  rw [if_neg (by omega), if_neg (by omega), if_neg (by rw [hro]; simp)]
theorem out_small {regs : Int} {bs : List Bf} {os : List Lop} {rs : Rws} : ((outR regs bs os rs).2.2.length : Int) ≤ 16777216 ∧ ((outR regs bs os rs).2.2.length : Int) ≤ (if (checkM regs bs os).2 = 0 then stepsM os else 0) ∧ (outR regs bs os rs).2.1.length ≤ 32 ∧ ∀ r ∈ (outR regs bs os rs).2.1, r.length ≤ 65536 := by
  by_cases he : (checkM regs bs os).2 ≠ 0
  · unfold outR
    rw [if_pos he, if_neg he]
    simp
  replace he : (checkM regs bs os).2 = 0 := by omega
  have hs0 : 0 ≤ stepsM os := by
    obtain ⟨hp, hpS⟩ := tree_of he
    rw [hp, steps_cnt hpS]
    exact (capM_le (by omega)).1
  by_cases h2 : 16777216 < stepsM os
  · unfold outR
    rw [if_neg (by omega), if_pos h2, if_pos he]
    simp; omega
  cases hro : rowsM bs rs with
  | false =>
    unfold outR
    rw [if_neg (by omega), if_neg h2, if_pos hro, if_pos he]
    simp; omega
  | true =>
    obtain ⟨hp, hpS⟩ := tree_of he
    obtain ⟨f1, f2, f3, f4⟩ := run_facts he hro (by omega) hp hpS rfl
    obtain ⟨_, _, _, h32, _, hh, _⟩ := check_ok he
    obtain ⟨hrl, _⟩ := rows_ok hro
    have hbl : ((treeOf os).exec 0 (initL bs rs)).1.bufs.length = bs.length := by
      rw [(keep_all hpS hp (initL bs rs)).bl]
      show (initB bs rs).length = _
      unfold initB; simp; omega
    rw [out_run he (by omega) hro, if_pos he]
    split
    · rename_i ok
      have := f1 ok
      refine ⟨by simp only; omega, by simp only; omega, by simp only; omega, fun r hr => ?_⟩
      obtain ⟨i, hi⟩ := List.mem_iff_getElem?.1 hr
      have hil : i < bs.length := by have := (List.getElem?_eq_some_iff.1 hi).1; simp only at this; omega
      obtain ⟨b, hb⟩ : ∃ b, bs[i]? = some b := ⟨_, List.getElem?_eq_getElem hil⟩
      obtain ⟨q, hq⟩ : ∃ q, rs[i]? = some q := ⟨_, List.getElem?_eq_getElem (by omega)⟩
      have h5 := (f4 i b q hb hq).1
      unfold bufAt at h5
      rw [Int.toNat_natCast, show ((treeOf os).exec 0 (initL bs rs)).1.bufs[i]? = some r from hi] at h5
      have := buf_size hh b (List.mem_of_getElem? hb)
      simp only [Option.getD_some] at h5
      omega
    · rename_i ok
      have := f2 (by simpa using ok)
      exact ⟨by simp only; omega, by simp only; omega, by simp, by simp⟩
end Go.Proofs.Ytkjlgapkcdcmgaa
