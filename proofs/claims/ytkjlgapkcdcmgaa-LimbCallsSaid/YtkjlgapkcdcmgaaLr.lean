/- Limb programs as trees; the flat machine of a limb program, it does what the tree does; two runs that agree on what is public; how many events a run has. Plain. -/
import Derived.Test.YtkjlgapkcdcmgaaLk31
set_option linter.unusedVariables false
set_option linter.unusedSimpArgs false
namespace Go.Proofs.Ytkjlgapkcdcmgaa
open Go Go.RowKit SL

/-- A run: registers, buffers, what was seen. -/
structure RS where
  r : List Int
  bufs : List (List Int)
  l : List Ev
def rAt (r : List Int) (k : Int) : Int := if cm .lss k 0 then 0 else (r[k.toNat]?).getD 0
def putR (r : List Int) (k v : Int) : List Int := if cm .geq k 0 then r.set k.toNat v else r
/-- What an operation over registers makes. -/
def makeV (o : Lop) (a b : Int) (c : Bool) : Int × Int :=
  if cm .eql o.k 1 then (o.imm, 0)
  else if cm .eql o.k 2 then (a, 0)
  else if cm .eql o.k 3 then (ar .add .u64 a b, 0)
  else if cm .eql o.k 4 then (ar .sub .u64 a b, 0)
  else if cm .eql o.k 5 then (ar .and .u64 a b, 0)
  else if cm .eql o.k 6 then (ar .or .u64 a b, 0)
  else if cm .eql o.k 7 then (ar .xor .u64 a b, 0)
  else if cm .eql o.k 8 then (ar .shl .u64 a o.imm, 0)
  else if cm .eql o.k 9 then (ar .shr .u64 a o.imm, 0)
  else if cm .eql o.k 10 then mulM a b
  else if cm .eql o.k 11 then ((addM a b c).1, bitM (addM a b c).2)
  else if cm .eql o.k 12 then ((subM a b c).1, bitM (subM a b c).2)
  else if cm .eql o.k 13 then (if c then a else b, 0)
  else (0, 0)
def bufAt (s : RS) (k : Int) : List Int := (s.bufs[k.toNat]?).getD []
/-- An operation that is no loop, no end; none: a limb that there is not. -/
def stepO (o : Lop) (i : Nat) (s : RS) : Option RS :=
  if cm .eql o.k 14 || cm .eql o.k 15 then
    (if cm .geq (ar .add .u64 o.imm (rAt s.r o.a)) (bufAt s o.buf).length then none
    else some ⟨if cm .eql o.k 15 then s.r else putR s.r o.d (((bufAt s o.buf)[(ar .add .u64 o.imm (rAt s.r o.a)).toNat]?).getD 0),
      if cm .eql o.k 15 then s.bufs.set o.buf.toNat ((bufAt s o.buf).set (ar .add .u64 o.imm (rAt s.r o.a)).toNat (rAt s.r o.b)) else s.bufs,
      s.l ++ [⟨i, ar .add .u64 o.imm (rAt s.r o.a)⟩]⟩)
  else
    some ⟨putR (putR s.r o.d (makeV o (rAt s.r o.a) (rAt s.r o.b) (cm .eql (ar .rem .u64 (rAt s.r o.c) 2) 1)).1) o.e (makeV o (rAt s.r o.a) (rAt s.r o.b) (cm .eql (ar .rem .u64 (rAt s.r o.c) 2) 1)).2, s.bufs, s.l ++ [⟨i, -1⟩]⟩
/-- Programs as trees. -/
inductive Pg where
  | nil
  | op (o : Lop) (rest : Pg)
  | loop (o : Lop) (body rest : Pg)
def endO : Lop := ⟨17, -1, -1, -1, -1, -1, 0, 0⟩
def Pg.flat : Pg → List Lop
  | .nil => []
  | .op o r => o :: r.flat
  | .loop o b r => o :: (b.flat ++ endO :: r.flat)
/-- What holds of a program that may be, within loops. -/
def Pg.Safe (regs : Int) (bs : List Bf) : List Int → Pg → Prop
  | _, .nil => True
  | ls, .op o r => rfields regs bs o = true ∧ o.k ≠ 16 ∧ o.k ≠ 17 ∧ (∀ x ∈ makesM o, x ∉ ls) ∧ r.Safe regs bs ls
  | ls, .loop o b r => rfields regs bs o = true ∧ o.k = 16 ∧ o.d ∉ ls ∧ b.Safe regs bs (o.d :: ls) ∧ r.Safe regs bs ls
/-- A run of a tree: how it ends, false: a limb that there is not. -/
def iter (f : Nat → RS → RS × Bool) : Nat → Nat → RS → RS × Bool
  | _, 0, s => (s, true)
  | n, m + 1, s => match f n s with
    | (s', false) => (s', false)
    | (s', true) => iter f (n + 1) m s'
def Pg.exec : Pg → Nat → RS → RS × Bool
  | .nil, _, s => (s, true)
  | .op o r, i, s => match stepO o i s with
    | none => (s, false)
    | some s' => r.exec (i + 1) s'
  | .loop o b r, i, s => match iter (fun n s => b.exec (i + 1) ⟨s.r.set o.d.toNat n, s.bufs, s.l ++ [⟨i, -1⟩]⟩) 0 o.imm.toNat s with
    | (s', false) => (s', false)
    | (s', true) => r.exec (i + b.flat.length + 2) s'
/-- A list of open programs: what stands ahead of each end that is still to come. -/
def flats : List Pg → List Lop
  | [] => []
  | [p] => p.flat
  | p :: q :: ps => p.flat ++ endO :: flats (q :: ps)
theorem end_of {regs : Int} {bs : List Bf} {o : Lop} (h : rfields regs bs o = true) (hk : o.k = 17) : o = endO := by
  obtain ⟨h1, h2⟩ := rf_bad h
  unfold rfields at h
  rw [if_neg (ne_true_of_eq_false h1), if_neg (ne_true_of_eq_false h2)] at h
  obtain ⟨k, d, e, a, b, c, buf, imm⟩ := o
  simp only at hk
  subst hk
  simp [rbad, fieldM, cm, hasE, mem] at h2 h
  obtain ⟨⟨⟨⟨g1, g2⟩, g3⟩, g4⟩, g5⟩ := h2
  unfold endO
  simp_all
/-- A program that may be is a tree. -/
theorem parse {regs : Int} {bs : List Bf} : ∀ (os : List Lop) (i : Nat) (c : Ck), (rrun regs bs os i c).2 = 0 →
    ∃ ps : List Pg, ps.length = c.loops.length + 1 ∧ os = flats ps ∧ ∀ (k : Nat) (p : Pg), ps[k]? = some p → p.Safe regs bs (c.loops.take (c.loops.length - k))
  | [], i, c, h => by
    unfold rrun at h
    simp only at h
    split at h
    · rename_i hl
      exact ⟨[.nil], by rw [hl]; rfl, rfl, fun k p hk => by
        cases k with
        | zero => simp at hk; subst hk; exact trivial
        | succ k => simp at hk⟩
    · omega
  | o :: os, i, c, h => by
    unfold rrun at h
    cases hs : rstep regs bs c o with
    | inl e => rw [hs] at h; have := rstep_ne hs; simp only at h; omega
    | inr c' =>
      rw [hs] at h
      obtain ⟨ps, h1, h2, h3⟩ := parse os (i + 1) c' h
      unfold rstep at hs
      cases hf : rfields regs bs o with
      | false => rw [hf] at hs; cases hs
      | true =>
      rw [hf] at hs
      simp only [if_true] at hs
      cases hk17 : cm .eql o.k 17 with
      | true =>
        rw [hk17] at hs
        simp only [if_true] at hs
        have hk : o.k = 17 := by simpa [cm] using hk17
        cases hg : c.loops.getLast? with
        | none => rw [hg] at hs; cases hs
        | some r =>
          rw [hg] at hs
          cases hs
          have hne : c.loops ≠ [] := fun e => by rw [e] at hg; cases hg
          have hlen : 0 < c.loops.length := List.length_pos_iff.2 hne
          refine ⟨.nil :: ps, by simp at h1 ⊢; omega, ?_, ?_⟩
          · match ps, h1 with
            | p :: ps', _ => rw [end_of hf hk, h2]; rfl
          · intro k p hk
            cases k with
            | zero => simp at hk; subst hk; exact trivial
            | succ k =>
              have := h3 k p (by simpa using hk)
              simp only [List.length_dropLast] at this
              have e : c.loops.dropLast.take (c.loops.length - 1 - k) = c.loops.take (c.loops.length - (k + 1)) := by
                rw [List.dropLast_eq_take, List.take_take, Nat.min_eq_left (by omega)]
                congr 1
                omega
              rw [e] at this; exact this
      | false =>
        rw [hk17] at hs
        simp only [Bool.false_eq_true, if_false] at hs
        have hk : o.k ≠ 17 := fun e => by simp [cm, e] at hk17
        split at hs
        · cases hs
        · rename_i hin
          split at hs
          · cases hs
          · split at hs
            · cases hs
            · split at hs
              · cases hs
              · cases hs
                have hmk : ∀ x ∈ makesM o, x ∉ c.loops := fun x hx hc => by
                  have := List.any_eq_true.2 ⟨x, hx, show c.loops.contains x = true from List.contains_iff_mem.2 hc⟩
                  exact hin this
                cases hk16 : cm .eql o.k 16 with
                | true =>
                  have h16 : o.k = 16 := by simpa [cm] using hk16
                  rw [hk16] at h1 h3
                  simp only [if_true] at h1 h3
                  match ps, h1, h2, h3 with
                  | [_], h1, _, _ => simp at h1
                  | q0 :: q1 :: qs, h1, h2, h3 =>
                    refine ⟨.loop o q0 q1 :: qs, by simp at h1 ⊢; omega, ?_, ?_⟩
                    · rw [h2]
                      cases qs with
                      | nil => simp [flats, Pg.flat]
                      | cons q2 qs => simp [flats, Pg.flat]
                    · intro k p hkp
                      have hlq : c.loops.length = qs.length := by simp at h1; omega
                      cases k with
                      | zero =>
                        simp at hkp
                        subst hkp
                        have g0 := h3 0 q0 rfl
                        have g1 := h3 1 q1 rfl
                        simp only [List.length_append, List.length_singleton, Nat.sub_zero, Nat.add_sub_cancel] at g0 g1
                        rw [List.take_of_length_le (by simp)] at g0
                        rw [List.take_append_of_le_length (Nat.le_refl _), List.take_length] at g1
                        rw [Nat.sub_zero, List.take_length]
                        refine ⟨hf, h16, hmk _ (by rw [makes_loop h16]; simp), ?_, g1⟩
                        exact safe_perm (fun x => by simp [or_comm]) q0 g0
                      | succ k =>
                        have := h3 (k + 2) p (by simpa using hkp)
                        simp only [List.length_append, List.length_singleton] at this
                        have hkl : k + 1 ≤ c.loops.length := by
                          have := (List.getElem?_eq_some_iff.1 hkp).1
                          simp at this; omega
                        rw [show c.loops.length + 1 - (k + 2) = c.loops.length - (k + 1) by omega, List.take_append_of_le_length (by omega)] at this
                        exact this
                | false =>
                  rw [hk16] at h1 h3
                  simp only [Bool.false_eq_true, if_false] at h1 h3
                  have h16 : o.k ≠ 16 := fun e => by simp [cm, e] at hk16
                  match ps, h1, h2, h3 with
                  | q0 :: qs, h1, h2, h3 =>
                    refine ⟨.op o q0 :: qs, h1, ?_, ?_⟩
                    · rw [h2]
                      cases qs with
                      | nil => rfl
                      | cons q2 qs => rfl
                    · intro k p hkp
                      cases k with
                      | zero =>
                        simp at hkp
                        subst hkp
                        have g0 := h3 0 q0 rfl
                        rw [Nat.sub_zero, List.take_length] at g0 ⊢
                        exact ⟨hf, h16, hk, hmk, g0⟩
                      | succ k => exact h3 (k + 1) p (by simpa using hkp)
where
  safe_perm {regs : Int} {bs : List Bf} {l1 l2 : List Int} (h : ∀ x, x ∈ l1 ↔ x ∈ l2) : ∀ p : Pg, p.Safe regs bs l1 → p.Safe regs bs l2
    | .nil, _ => trivial
    | .op o r, g => ⟨g.1, g.2.1, g.2.2.1, fun x hx hc => g.2.2.2.1 x hx ((h x).2 hc), safe_perm h r g.2.2.2.2⟩
    | .loop o b r, g => ⟨g.1, g.2.1, fun hc => g.2.2.1 ((h _).2 hc), safe_perm (fun x => by simp [h x]) b g.2.2.2.1, safe_perm h r g.2.2.2.2⟩
end Go.Proofs.Ytkjlgapkcdcmgaa
namespace Go.Proofs.Ytkjlgapkcdcmgaa
open Go Go.RowKit SL

structure FS where
  pc : Nat
  first : Bool
  s : RS
/-- The loops that are open ahead of a place, the outmost first. -/
def stkF (st : List Nat) (x : Lop × Nat) : List Nat := if cm .eql x.1.k 16 then st ++ [x.2] else if cm .eql x.1.k 17 then st.dropLast else st
def stkAt (os : List Lop) (i : Nat) : List Nat := (os.zipIdx.take i).foldl stkF []
def matchAt (os : List Lop) (i : Nat) : Nat := ((stkAt os i).getLast?).getD 0
def opAt (os : List Lop) (i : Nat) : Lop := (os[i]?).getD endO
def regAt (r : List Int) (k : Int) : Int := (r[k.toNat]?).getD 0
def fstep (os : List Lop) (f : FS) : FS ⊕ (RS × Bool) :=
  if f.pc < os.length then
    if cm .eql (opAt os f.pc).k 16 then .inl ⟨f.pc + 1, true, ⟨if f.first then f.s.r.set (opAt os f.pc).d.toNat 0 else f.s.r, f.s.bufs, f.s.l ++ [⟨f.pc, -1⟩]⟩⟩
    else if cm .eql (opAt os f.pc).k 17 then
      (if cm .lss (ar .add .u64 (regAt f.s.r (opAt os (matchAt os f.pc)).d) 1) (opAt os (matchAt os f.pc)).imm then
        .inl ⟨matchAt os f.pc, false, ⟨f.s.r.set (opAt os (matchAt os f.pc)).d.toNat (ar .add .u64 (regAt f.s.r (opAt os (matchAt os f.pc)).d) 1), f.s.bufs, f.s.l⟩⟩
      else .inl ⟨f.pc + 1, f.first, f.s⟩)
    else (match stepO (opAt os f.pc) f.pc f.s with
      | none => .inr (f.s, false)
      | some s' => .inl ⟨f.pc + 1, f.first, s'⟩)
  else .inr (f.s, true)
/-- In so many steps the machine is there. -/
inductive Goes (os : List Lop) : FS → Nat → FS ⊕ (RS × Bool) → Prop where
  | here (f : FS) : Goes os f 0 (.inl f)
  | done {f : FS} {x : RS × Bool} (h : fstep os f = .inr x) : Goes os f 0 (.inr x)
  | go {f g : FS} {n : Nat} {x : FS ⊕ (RS × Bool)} (h : fstep os f = .inl g) (k : Goes os g n x) : Goes os f (n + 1) x
theorem Goes.trans {os : List Lop} {f g : FS} {n : Nat} (h : Goes os f n (.inl g)) {m : Nat} {x : FS ⊕ (RS × Bool)} (k : Goes os g m x) : ∃ q, Goes os f q x := by
  generalize hy : (Sum.inl g : FS ⊕ (RS × Bool)) = y at h
  induction h with
  | here f => cases hy; exact ⟨_, k⟩
  | done h => cases hy
  | go h _ ih =>
    obtain ⟨q, hq⟩ := ih hy
    exact ⟨q + 1, .go h hq⟩
theorem opAt_drop {os rest : List Lop} {i : Nat} {o : Lop} (h : os.drop i = o :: rest) : opAt os i = o ∧ i < os.length ∧ os.drop (i + 1) = rest ∧ os[i]? = some o := by
  have hi : i < os.length := by
    rcases Nat.lt_or_ge i os.length with h1 | h1
    · exact h1
    · rw [List.drop_of_length_le h1] at h; cases h
  have hg : os[i]? = some o := by
    rw [List.drop_eq_getElem_cons hi] at h
    have := (List.cons.inj h).1
    rw [List.getElem?_eq_getElem hi, this]
  refine ⟨by unfold opAt; rw [hg]; rfl, hi, ?_, hg⟩
  rw [List.drop_eq_getElem_cons hi] at h
  exact (List.cons.inj h).2
theorem stk_succ {os : List Lop} {i : Nat} {o : Lop} (h : os[i]? = some o) : stkAt os (i + 1) = stkF (stkAt os i) (o, i) := by
  unfold stkAt
  have : os.zipIdx[i]? = some (o, i) := by rw [List.getElem?_zipIdx, h]; simp
  rw [List.take_add_one, this, List.foldl_append]; rfl
/-- What a tree leaves of the open loops. -/
theorem stk_flat {os : List Lop} {regs : Int} {bs : List Bf} : ∀ (p : Pg) (ls : List Int) (i : Nat) (rest : List Lop), p.Safe regs bs ls → os.drop i = p.flat ++ rest → stkAt os (i + p.flat.length) = stkAt os i ∧ os.drop (i + p.flat.length) = rest
  | .nil, ls, i, rest, _, h => ⟨rfl, h⟩
  | .op o r, ls, i, rest, hs, h => by
    obtain ⟨_, h16, h17, _, hr⟩ := hs
    obtain ⟨h1, h2, h3, h4⟩ := opAt_drop (rest := r.flat ++ rest) h
    have := stk_flat r ls (i + 1) rest hr h3
    rw [stk_succ h4] at this
    have e : stkF (stkAt os i) (o, i) = stkAt os i := by unfold stkF; rw [if_neg (by rw [cm_no h16]; simp), if_neg (by rw [cm_no h17]; simp)]
    rw [e] at this
    simp only [Pg.flat, List.length_cons]
    rw [show i + (r.flat.length + 1) = i + 1 + r.flat.length by omega]
    exact this
  | .loop o b r, ls, i, rest, hs, h => by
    obtain ⟨_, h16, _, hb, hr⟩ := hs
    have h' : os.drop i = o :: (b.flat ++ (endO :: (r.flat ++ rest))) := by rw [h]; simp [Pg.flat]
    obtain ⟨h1, h2, h3, h4⟩ := opAt_drop h'
    obtain ⟨g1, g2⟩ := stk_flat b _ (i + 1) _ hb h3
    obtain ⟨k1, k2, k3, k4⟩ := opAt_drop g2
    obtain ⟨q1, q2⟩ := stk_flat r ls _ rest hr k3
    have e1 : stkAt os (i + 1) = stkAt os i ++ [i] := by rw [stk_succ h4]; unfold stkF; rw [if_pos (cm_yes h16)]
    have e2 : stkAt os (i + 1 + b.flat.length + 1) = stkAt os i := by
      rw [stk_succ k4, g1, e1]; unfold stkF endO; simp [cm]
    simp only [Pg.flat, List.length_cons, List.length_append]
    rw [show i + (b.flat.length + (r.flat.length + 1) + 1) = i + 1 + b.flat.length + 1 + r.flat.length by omega]
    exact ⟨q1.trans e2, q2⟩
theorem putR_len (r : List Int) (k v : Int) : (putR r k v).length = r.length := by unfold putR; split <;> simp
theorem putR_keep {r : List Int} {k v x : Int} (hx : 0 ≤ x) (h : x ≠ k) : (putR r k v)[x.toNat]? = r[x.toNat]? := by
  unfold putR
  split
  · rename_i hk
    have hk : 0 ≤ k := by simpa [cm] using hk
    rw [List.getElem?_set, if_neg (by omega)]
  · rfl
theorem putR_no {r : List Int} {k v : Int} (h : k < 0) : putR r k v = r := by
  unfold putR; rw [show cm .geq k 0 = false from cm_ge' h]; rfl
theorem stepO_keep {regs : Int} {bs : List Bf} {o : Lop} {i : Nat} {s s' : RS} (hf : rfields regs bs o = true) (h : stepO o i s = some s') : s'.r.length = s.r.length ∧ ∀ x, 0 ≤ x → x ∉ makesM o → s'.r[x.toNat]? = s.r[x.toNat]? := by
  have hm := makes_filter hf
  have key : ∀ x, 0 ≤ x → x ∉ makesM o → x ≠ o.d ∧ x ≠ o.e := fun x hx hn => by
    constructor
    · intro e; subst e
      exact hn (by rw [hm]; exact List.mem_filter.2 ⟨by simp, cm_ge hx⟩)
    · intro e; subst e
      exact hn (by rw [hm]; exact List.mem_filter.2 ⟨by simp, cm_ge hx⟩)
  unfold stepO at h
  split at h
  · split at h
    · cases h
    · cases h
      simp only
      split
      · exact ⟨rfl, fun _ _ _ => rfl⟩
      · exact ⟨putR_len _ _ _, fun x hx hn => putR_keep hx (key x hx hn).1⟩
  · cases h
    exact ⟨by simp only; rw [putR_len, putR_len], fun x hx hn => by simp only; rw [putR_keep hx (key x hx hn).2, putR_keep hx (key x hx hn).1]⟩
/-- What the machine does of a tree. -/
def Sim (os : List Lop) (ls : List Int) (i j : Nat) (s : RS) (x : RS × Bool) : Prop :=
  match x with
  | (s', true) => (∃ n, Goes os ⟨i, true, s⟩ n (.inl ⟨j, true, s'⟩)) ∧ s'.r.length = s.r.length ∧ ∀ x ∈ ls, s'.r[x.toNat]? = s.r[x.toNat]?
  | (s', false) => ∃ n, Goes os ⟨i, true, s⟩ n (.inr (s', false))
theorem step_inl {os : List Lop} {f g : FS} (h : fstep os f = .inl g) : Goes os f 1 (.inl g) := .go h (.here g)
theorem iter_sim {os : List Lop} {o : Lop} {ls : List Int} {i e : Nat} {f : Nat → RS → RS × Bool} {imm R : Nat} (ho : opAt os i = o) (hi : i < os.length) (h16 : o.k = 16) (him : o.imm = imm) (hi20 : imm ≤ 1048576) (hd : 0 ≤ o.d ∧ o.d < R)
    (he : opAt os e = endO) (hel : e < os.length) (hma : matchAt os e = i) (hls : ∀ x ∈ ls, 0 ≤ x ∧ x ≠ o.d)
    (hf : ∀ n s, s.r.length = R → Sim os (o.d :: ls) (i + 1) e ⟨s.r.set o.d.toNat n, s.bufs, s.l ++ [⟨i, -1⟩]⟩ (f n s)) :
    ∀ (m n : Nat) (s t : RS) (first : Bool), n + m + 1 = imm → s.r.length = R → t.bufs = s.bufs → t.l = s.l → (if first then t.r.set o.d.toNat 0 else t.r) = s.r.set o.d.toNat n →
      match iter f n (m + 1) s with
      | (s', true) => (∃ q, Goes os ⟨i, first, t⟩ q (.inl ⟨e + 1, true, s'⟩)) ∧ s'.r.length = s.r.length ∧ ∀ x ∈ ls, s'.r[x.toNat]? = s.r[x.toNat]?
      | (s', false) => ∃ q, Goes os ⟨i, first, t⟩ q (.inr (s', false)) := by
  intro m
  induction m with
  | zero =>
    intro n s t first hn hR hb hl hr
    have h1 : fstep os ⟨i, first, t⟩ = .inl ⟨i + 1, true, ⟨s.r.set o.d.toNat n, s.bufs, s.l ++ [⟨i, -1⟩]⟩⟩ := by
      unfold fstep; simp only [hi, if_true, ho, cm_yes h16, hb, hl, hr]
    have h2 := hf n s hR
    unfold iter
    cases hx : f n s with
    | mk s2 ok =>
      rw [hx] at h2
      cases ok with
      | false =>
        obtain ⟨q, hq⟩ := h2
        exact ⟨q + 1, .go h1 hq⟩
      | true =>
        obtain ⟨⟨q, hq⟩, hlen, hk⟩ := h2
        simp only [iter]
        have hd2 : regAt s2.r o.d = n := by
          unfold regAt; rw [hk o.d List.mem_cons_self]; simp only
          rw [List.getElem?_set, if_pos rfl, if_pos (by omega)]; rfl
        have h3 : fstep os ⟨e, true, s2⟩ = .inl ⟨e + 1, true, s2⟩ := by
          unfold fstep
          have hlt : cm .lss (ar .add .u64 (regAt s2.r o.d) 1) o.imm = false := by
            rw [hd2, him, show ar .add .u64 (n : Int) 1 = (n : Int) + 1 from u64_wrap (by omega)]; exact cm_lo' (by omega)
          simp only [hel, if_true, he, hma, ho, hlt]
          simp [endO, cm]
        obtain ⟨q2, hq2⟩ := hq.trans (step_inl h3)
        refine ⟨⟨q2 + 1, .go h1 hq2⟩, by rw [hlen]; simp, fun x hx => ?_⟩
        rw [hk x (List.mem_cons_of_mem _ hx)]; simp only
        have := hls x hx
        rw [List.getElem?_set, if_neg (by omega)]
  | succ m ih =>
    intro n s t first hn hR hb hl hr
    have h1 : fstep os ⟨i, first, t⟩ = .inl ⟨i + 1, true, ⟨s.r.set o.d.toNat n, s.bufs, s.l ++ [⟨i, -1⟩]⟩⟩ := by
      unfold fstep; simp only [hi, if_true, ho, cm_yes h16, hb, hl, hr]
    have h2 := hf n s hR
    unfold iter
    cases hx : f n s with
    | mk s2 ok =>
      rw [hx] at h2
      cases ok with
      | false =>
        obtain ⟨q, hq⟩ := h2
        exact ⟨q + 1, .go h1 hq⟩
      | true =>
        obtain ⟨⟨q, hq⟩, hlen, hk⟩ := h2
        simp only
        have hd2 : regAt s2.r o.d = n := by
          unfold regAt; rw [hk o.d List.mem_cons_self]; simp only
          rw [List.getElem?_set, if_pos rfl, if_pos (by omega)]; rfl
        have ha : ar .add .u64 (n : Int) 1 = ((n + 1 : Nat) : Int) := by
          rw [show ar .add .u64 (n : Int) 1 = (n : Int) + 1 from u64_wrap (by omega)]; omega
        have h3 : fstep os ⟨e, true, s2⟩ = .inl ⟨i, false, ⟨s2.r.set o.d.toNat ((n + 1 : Nat) : Int), s2.bufs, s2.l⟩⟩ := by
          unfold fstep
          have hlt : cm .lss ((n + 1 : Nat) : Int) o.imm = true := by rw [him]; exact cm_lo (by omega)
          simp only [hel, if_true, he, hma, ho, hd2, ha, hlt]
          simp [endO, cm]
        obtain ⟨q2, hq2⟩ := hq.trans (step_inl h3)
        have hR2 : s2.r.length = R := by rw [hlen]; simp [hR]
        have := ih (n + 1) s2 ⟨s2.r.set o.d.toNat ((n + 1 : Nat) : Int), s2.bufs, s2.l⟩ false (by omega) hR2 rfl rfl rfl
        revert this
        cases hit : iter f (n + 1) (m + 1) s2 with
        | mk s' ok =>
          cases ok with
          | false =>
            rintro ⟨q3, hq3⟩
            obtain ⟨q4, hq4⟩ := hq2.trans hq3
            exact ⟨q4 + 1, .go h1 hq4⟩
          | true =>
            rintro ⟨⟨q3, hq3⟩, hl3, hk3⟩
            obtain ⟨q4, hq4⟩ := hq2.trans hq3
            refine ⟨⟨q4 + 1, .go h1 hq4⟩, by rw [hl3, hR2, hR], fun x hx => ?_⟩
            rw [hk3 x hx, hk x (List.mem_cons_of_mem _ hx)]; simp only
            have := hls x hx
            rw [List.getElem?_set, if_neg (by omega)]
theorem sim {os : List Lop} {regs : Int} {bs : List Bf} (hreg : 0 ≤ regs) : ∀ (p : Pg) (ls : List Int) (i : Nat) (rest : List Lop) (s : RS), p.Safe regs bs ls → os.drop i = p.flat ++ rest → (∀ x ∈ ls, 0 ≤ x ∧ x < regs) → s.r.length = regs.toNat →
    Sim os ls i (i + p.flat.length) s (p.exec i s)
  | .nil, ls, i, rest, s, _, _, _, _ => ⟨⟨0, .here _⟩, rfl, fun _ _ => rfl⟩
  | .op o r, ls, i, rest, s, hs, h, hl, hR => by
    obtain ⟨hf, h16, h17, hmk, hr⟩ := hs
    obtain ⟨h1, h2, h3, h4⟩ := opAt_drop (rest := r.flat ++ rest) h
    unfold Pg.exec
    cases hst : stepO o i s with
    | none =>
      refine ⟨0, .done ?_⟩
      unfold fstep
      simp only [h2, if_true, h1, cm_no h16, cm_no h17, Bool.false_eq_true, if_false, hst]
    | some s1 =>
      have hstep : fstep os ⟨i, true, s⟩ = .inl ⟨i + 1, true, s1⟩ := by
        unfold fstep
        simp only [h2, if_true, h1, cm_no h16, cm_no h17, Bool.false_eq_true, if_false, hst]
      obtain ⟨k1, k2⟩ := stepO_keep hf hst
      have ih := sim hreg r ls (i + 1) rest s1 hr h3 hl (by rw [k1, hR])
      simp only [Pg.flat, List.length_cons]
      rw [show i + (r.flat.length + 1) = i + 1 + r.flat.length by omega]
      unfold Sim at ih ⊢
      revert ih
      cases r.exec (i + 1) s1 with
      | mk s2 ok =>
        cases ok with
        | false => rintro ⟨n, hn⟩; exact ⟨n + 1, .go hstep hn⟩
        | true =>
          rintro ⟨⟨n, hn⟩, g1, g2⟩
          refine ⟨⟨n + 1, .go hstep hn⟩, by rw [g1, k1], fun x hx => ?_⟩
          rw [g2 x hx]
          exact k2 x (hl x hx).1 (fun hc => hmk x hc hx)
  | .loop o b r, ls, i, rest, s, hs, h, hl, hR => by
    obtain ⟨hf, h16, hd, hb, hr⟩ := hs
    have h' : os.drop i = o :: (b.flat ++ (endO :: (r.flat ++ rest))) := by rw [h]; simp [Pg.flat]
    obtain ⟨h1, h2, h3, h4⟩ := opAt_drop h'
    obtain ⟨g1, g2⟩ := stk_flat b _ (i + 1) _ hb h3
    obtain ⟨k1, k2, k3, k4⟩ := opAt_drop g2
    have e1 : stkAt os (i + 1) = stkAt os i ++ [i] := by rw [stk_succ h4]; unfold stkF; rw [if_pos (cm_yes h16)]
    have hma : matchAt os (i + 1 + b.flat.length) = i := by unfold matchAt; rw [g1, e1]; simp
    have him := loop_imm hf h16
    have hdr := rf_makes hf o.d (by rw [makes_loop h16]; simp)
    obtain ⟨imm, himm⟩ : ∃ imm : Nat, o.imm = imm := ⟨o.imm.toNat, by omega⟩
    have hit := iter_sim (os := os) (o := o) (ls := ls) (i := i) (e := i + 1 + b.flat.length) (f := fun n s => b.exec (i + 1) ⟨s.r.set o.d.toNat n, s.bufs, s.l ++ [⟨i, -1⟩]⟩) (imm := imm) (R := regs.toNat) h1 h2 h16 himm (by omega) (by omega) k1 k2 hma
      (fun x hx => ⟨(hl x hx).1, fun e => hd (e ▸ hx)⟩)
      (fun n s hsR => sim hreg b (o.d :: ls) (i + 1) _ _ hb h3 (fun x hx => by
        rcases List.mem_cons.1 hx with rfl | hx
        · exact hdr
        · exact hl x hx) (by simpa using hsR)) (imm - 1) 0 s s true (by omega) hR rfl rfl rfl
    rw [show imm - 1 + 1 = imm by omega] at hit
    unfold Pg.exec
    rw [show o.imm.toNat = imm by omega]
    revert hit
    cases iter (fun n s => b.exec (i + 1) ⟨s.r.set o.d.toNat n, s.bufs, s.l ++ [⟨i, -1⟩]⟩) 0 imm s with
    | mk s1 ok =>
      cases ok with
      | false => rintro ⟨q, hq⟩; exact ⟨q, hq⟩
      | true =>
        rintro ⟨⟨q, hq⟩, l1, p1⟩
        have ih := sim hreg r ls (i + 1 + b.flat.length + 1) rest s1 hr k3 hl (by rw [l1, hR])
        simp only
        rw [show i + b.flat.length + 2 = i + 1 + b.flat.length + 1 by omega]
        simp only [Pg.flat, List.length_cons, List.length_append]
        rw [show i + (b.flat.length + (r.flat.length + 1) + 1) = i + 1 + b.flat.length + 1 + r.flat.length by omega]
        unfold Sim at ih ⊢
        revert ih
        cases r.exec (i + 1 + b.flat.length + 1) s1 with
        | mk s2 ok =>
          cases ok with
          | false =>
            rintro ⟨n, hn⟩
            exact hq.trans hn
          | true =>
            rintro ⟨⟨n, hn⟩, g1, g2⟩
            exact ⟨hq.trans hn, by rw [g1, l1], fun x hx => by rw [g2 x hx, p1 x hx]⟩
/-- A run of a program that may be ends. -/
theorem goes_all {regs : Int} {bs : List Bf} {os : List Lop} (he : (checkM regs bs os).2 = 0) : ∃ p : Pg, os = p.flat ∧ p.Safe regs bs [] ∧ ∀ s : RS, s.r.length = regs.toNat → ∃ n, Goes os ⟨0, true, s⟩ n (.inr (p.exec 0 s)) := by
  obtain ⟨_, h0, _, _, _, hh, _⟩ := check_ok he
  have hrun : (rrun regs bs os 0 ⟨List.replicate regs.toNat false, []⟩).2 = 0 := by
    have := he; unfold checkM at this; rw [hh] at this; exact this
  obtain ⟨ps, h1, h2, h3⟩ := parse os 0 _ hrun
  match ps, h1, h2, h3 with
  | [p], _, h2, h3 =>
    have hs := h3 0 p rfl
    simp at hs
    refine ⟨p, h2, hs, fun s hR => ?_⟩
    have := sim (os := os) h0 p [] 0 [] s hs (by rw [h2]; simp [flats]) (fun x hx => by cases hx) hR
    unfold Sim at this
    revert this
    cases hx : p.exec 0 s with
    | mk s' ok =>
      cases ok with
      | false => rintro ⟨n, hn⟩; exact ⟨n, hn⟩
      | true =>
        rintro ⟨⟨n, hn⟩, _⟩
        refine hn.trans (.done ?_)
        unfold fstep
        have hl : ¬ (0 + p.flat.length < os.length) := by rw [h2]; simp [flats]
        simp only [hl, if_false]
end Go.Proofs.Ytkjlgapkcdcmgaa
namespace Go.Proofs.Ytkjlgapkcdcmgaa
open Go Go.RowKit SL

/-- They agree on what is public. -/
structure NI (bs : List Bf) (m : Nat) (s t : RS) : Prop where
  rl : s.r.length = t.r.length
  r : ∀ k : Int, 0 ≤ k → m.testBit k.toNat = false → s.r[k.toNat]? = t.r[k.toNat]?
  bl : s.bufs.length = t.bufs.length
  row : ∀ k : Int, (bufAt s k).length = (bufAt t k).length
  b : ∀ k : Int, (bAt bs k).sec = false → bufAt s k = bufAt t k
  l : s.l = t.l
theorem ni_rAt {bs : List Bf} {m : Nat} {s t : RS} (h : NI bs m s t) {k : Int} (hk : mhas m k = false) : rAt s.r k = rAt t.r k := by
  unfold rAt
  by_cases h0 : k < 0
  · rw [if_pos (cm_lo h0), if_pos (cm_lo h0)]
  · rw [if_neg (by rw [cm_lo' (by omega)]; simp), if_neg (by rw [cm_lo' (by omega)]; simp)]
    have : m.testBit k.toNat = false := by unfold mhas at hk; rw [cm_ge (by omega), Bool.true_and] at hk; exact hk
    rw [h.r k (by omega) this]
theorem getElem?_putR (r : List Int) (k v x : Int) (hx : 0 ≤ x) : (putR r k v)[x.toNat]? = if x = k then (if x.toNat < r.length then some v else none) else r[x.toNat]? := by
  by_cases h : x = k
  · subst h
    rw [if_pos rfl]; unfold putR; rw [if_pos (cm_ge hx), List.getElem?_set, if_pos rfl]
  · rw [if_neg h]; exact putR_keep hx h
/-- A register is turned alike, or it is secret. -/
theorem ni_put {m : Nat} {r q : List Int} {k v w : Int} (hl : r.length = q.length) (h : ∀ x : Int, 0 ≤ x → m.testBit x.toNat = false → r[x.toNat]? = q[x.toNat]?) (hv : v = w ∨ mhas m k = true ∨ k < 0) :
    (putR r k v).length = (putR q k w).length ∧ ∀ x : Int, 0 ≤ x → m.testBit x.toNat = false → (putR r k v)[x.toNat]? = (putR q k w)[x.toNat]? := by
  refine ⟨by rw [putR_len, putR_len, hl], fun x hx hb => ?_⟩
  rw [getElem?_putR _ _ _ _ hx, getElem?_putR _ _ _ _ hx]
  by_cases hxk : x = k
  · rw [if_pos hxk, if_pos hxk, hl]
    rcases hv with rfl | hv | hv
    · rfl
    · subst hxk; unfold mhas at hv; rw [hb] at hv; simp at hv
    · omega
  · rw [if_neg hxk, if_neg hxk]; exact h x hx hb
theorem mwith_fix {m : Nat} {d e : Int} (h : mwith (mwith m d) e = m) : (mhas m d = true ∨ d < 0) ∧ (mhas m e = true ∨ e < 0) := by
  have key : ∀ k : Int, (k = d ∨ k = e) → mhas m k = true ∨ k < 0 := fun k hk => by
    by_cases h0 : 0 ≤ k
    · left
      unfold mhas
      rw [cm_ge h0, Bool.true_and, ← h, mwith_bit, mwith_bit]
      rcases hk with rfl | rfl
      · rw [cm_ge h0]; simp
      · rw [cm_ge h0]; simp
    · right; omega
  exact ⟨key d (.inl rfl), key e (.inr rfl)⟩
theorem bufAt_set (s : RS) (j : Nat) (row : List Int) (k : Int) : bufAt ⟨s.r, s.bufs.set j row, s.l⟩ k = if k.toNat = j ∧ j < s.bufs.length then row else bufAt s k := by
  unfold bufAt
  simp only
  rw [List.getElem?_set]
  by_cases h : j = k.toNat
  · subst h
    by_cases h2 : k.toNat < s.bufs.length
    · rw [if_pos rfl, if_pos h2, if_pos ⟨rfl, h2⟩]; rfl
    · rw [if_pos rfl, if_neg h2, if_neg (fun g => h2 g.2)]
      rw [List.getElem?_eq_none (by omega)]
  · rw [if_neg h, if_neg (fun g => h g.1.symm)]
/-- How two steps end alike. -/
def NIo (bs : List Bf) (m : Nat) (x y : Option RS) : Prop := (x = none ∧ y = none) ∨ ∃ s t, x = some s ∧ y = some t ∧ NI bs m s t
theorem stepO_ni {regs : Int} {bs : List Bf} {m : Nat} {o : Lop} {i : Nat} {s t : RS} (hf : rfields regs bs o = true) (hp : passO bs m o = m) (hb : badM bs m o = false) (h : NI bs m s t) : NIo bs m (stepO o i s) (stepO o i t) := by
  have hb0 : ruleM bs m o 0 = false := by simp [badM] at hb; exact hb.1
  have hb1 : ruleM bs m o 1 = false := by simp [badM] at hb; exact hb.2.1
  unfold stepO
  cases hm : (cm .eql o.k 14 || cm .eql o.k 15) with
  | true =>
    simp only [if_true]
    have ha : mhas m o.a = false := by
      have : (mem o && mhas m o.a) = false := hb0
      unfold mem at this; rw [hm, Bool.true_and] at this; exact this
    rw [ni_rAt h ha, h.row o.buf]
    generalize ar .add .u64 o.imm (rAt t.r o.a) = n
    split
    · exact .inl ⟨rfl, rfl⟩
    · refine .inr ⟨_, _, rfl, rfl, ?_⟩
      cases hk : cm .eql o.k 15 with
      | true =>
        simp only [if_true]
        have hrow : ∀ k, bufAt ⟨s.r, s.bufs.set o.buf.toNat ((bufAt s o.buf).set n.toNat (rAt s.r o.b)), s.l ++ [⟨i, n⟩]⟩ k = if k.toNat = o.buf.toNat ∧ o.buf.toNat < s.bufs.length then (bufAt s o.buf).set n.toNat (rAt s.r o.b) else bufAt s k := fun k => bufAt_set s _ _ k
        have hrow2 : ∀ k, bufAt ⟨t.r, t.bufs.set o.buf.toNat ((bufAt t o.buf).set n.toNat (rAt t.r o.b)), t.l ++ [⟨i, n⟩]⟩ k = if k.toNat = o.buf.toNat ∧ o.buf.toNat < t.bufs.length then (bufAt t o.buf).set n.toNat (rAt t.r o.b) else bufAt t k := fun k => bufAt_set t _ _ k
        refine ⟨h.rl, h.r, by simp [h.bl], fun k => ?_, fun k hk2 => ?_, by rw [h.l]⟩
        · rw [hrow, hrow2, h.bl]
          split
          · simp [h.row o.buf]
          · exact h.row k
        · rw [hrow, hrow2, h.bl]
          split
          · rename_i hkb
            have hsec : (bAt bs o.buf).sec = false := by
              have : bAt bs o.buf = bAt bs k := by unfold bAt; rw [hkb.1]
              rw [this]; exact hk2
            have hbb : mhas m o.b = false := by
              have : ((cm .eql o.k 15 && mhas m o.b) && !(bAt bs o.buf).sec) = false := hb1
              rw [hk, hsec] at this; simpa using this
            rw [h.b o.buf hsec, ni_rAt h hbb]
          · exact h.b k hk2
      | false =>
        simp only [Bool.false_eq_true, if_false]
        have hk14 : cm .eql o.k 14 = true := by rw [hk, Bool.or_false] at hm; exact hm
        have hv : ((bufAt s o.buf)[n.toNat]?).getD 0 = ((bufAt t o.buf)[n.toNat]?).getD 0 ∨ mhas m o.d = true ∨ o.d < 0 := by
          cases hsec : (bAt bs o.buf).sec with
          | false => left; rw [h.b o.buf hsec]
          | true =>
            right
            have ht : taintM bs m o = true := by unfold taintM; rw [if_pos hk14, hsec]
            unfold passO at hp
            rw [if_pos ht] at hp
            exact (mwith_fix hp).1
        obtain ⟨p1, p2⟩ := ni_put h.rl h.r hv
        exact ⟨p1, p2, h.bl, h.row, h.b, by rw [h.l]⟩
  | false =>
    simp only [Bool.false_eq_true, if_false]
    refine .inr ⟨_, _, rfl, rfl, ?_⟩
    have hk14 : cm .eql o.k 14 = false := (Bool.or_eq_false_iff.1 hm).1
    cases ht : taintM bs m o with
    | true =>
      unfold passO at hp
      rw [if_pos ht] at hp
      obtain ⟨f1, f2⟩ := mwith_fix hp
      obtain ⟨p1, p2⟩ := ni_put (v := (makeV o (rAt s.r o.a) (rAt s.r o.b) (cm .eql (ar .rem .u64 (rAt s.r o.c) 2) 1)).1) (w := (makeV o (rAt t.r o.a) (rAt t.r o.b) (cm .eql (ar .rem .u64 (rAt t.r o.c) 2) 1)).1) h.rl h.r (.inr f1)
      obtain ⟨p3, p4⟩ := ni_put (v := (makeV o (rAt s.r o.a) (rAt s.r o.b) (cm .eql (ar .rem .u64 (rAt s.r o.c) 2) 1)).2) (w := (makeV o (rAt t.r o.a) (rAt t.r o.b) (cm .eql (ar .rem .u64 (rAt t.r o.c) 2) 1)).2) p1 p2 (.inr f2)
      exact ⟨p3, p4, h.bl, h.row, h.b, by rw [h.l]⟩
    | false =>
      unfold taintM at ht
      rw [if_neg (by rw [hk14]; simp)] at ht
      obtain ⟨ht1, t3⟩ := Bool.or_eq_false_iff.1 ht
      obtain ⟨t1, t2⟩ := Bool.or_eq_false_iff.1 ht1
      rw [ni_rAt h t1, ni_rAt h t2, ni_rAt h t3]
      obtain ⟨p1, p2⟩ := ni_put (k := o.d) (v := (makeV o (rAt t.r o.a) (rAt t.r o.b) (cm .eql (ar .rem .u64 (rAt t.r o.c) 2) 1)).1) h.rl h.r (.inl rfl)
      obtain ⟨p3, p4⟩ := ni_put (k := o.e) (v := (makeV o (rAt t.r o.a) (rAt t.r o.b) (cm .eql (ar .rem .u64 (rAt t.r o.c) 2) 1)).2) p1 p2 (.inl rfl)
      exact ⟨p3, p4, h.bl, h.row, h.b, by rw [h.l]⟩
theorem opAt_lt {os : List Lop} {i : Nat} (h : i < os.length) : os[i]? = some (opAt os i) ∧ opAt os i ∈ os := by
  have : os[i]? = some os[i] := List.getElem?_eq_getElem h
  have e : opAt os i = os[i] := by unfold opAt; rw [this]; rfl
  rw [e]; exact ⟨this, List.getElem_mem h⟩
theorem stk_mem {os : List Lop} : ∀ i, i ≤ os.length → ∀ j ∈ stkAt os i, j < i ∧ (opAt os j).k = 16
  | 0, _, j, hj => by simp [stkAt] at hj
  | i + 1, hi, j, hj => by
    obtain ⟨ho, _⟩ := opAt_lt (os := os) (i := i) (by omega)
    rw [stk_succ ho] at hj
    unfold stkF at hj
    simp only at hj
    split at hj
    · rename_i hk
      rcases List.mem_append.1 hj with hj | hj
      · have := stk_mem i (by omega) j hj; exact ⟨by omega, this.2⟩
      · rw [List.mem_singleton] at hj
        subst hj
        exact ⟨by omega, by simpa [cm] using hk⟩
    · split at hj
      · have := stk_mem i (by omega) j ((List.dropLast_sublist _).mem hj); exact ⟨by omega, this.2⟩
      · have := stk_mem i (by omega) j hj; exact ⟨by omega, this.2⟩
theorem stk_len {regs : Int} {bs : List Bf} {os : List Lop} : ∀ (q : List Lop) (i : Nat) (c : Ck), os.drop i = q → (rrun regs bs q i c).2 = 0 → (stkAt os i).length = c.loops.length → ∀ j, i ≤ j → j < os.length → (opAt os j).k = 17 → stkAt os j ≠ []
  | [], i, c, hd, _, _, j, hij, hj, _ => by
    have := congrArg List.length hd
    simp at this; omega
  | o :: q, i, c, hd, hr, hl, j, hij, hj, hk => by
    obtain ⟨h1, h2, h3, h4⟩ := opAt_drop hd
    unfold rrun at hr
    cases hs : rstep regs bs c o with
    | inl e => rw [hs] at hr; have := rstep_ne hs; simp only at hr; omega
    | inr c' =>
      rw [hs] at hr
      obtain ⟨hf, l16, l17, l0⟩ := rstep_loops hs
      rcases Nat.eq_or_lt_of_le hij with rfl | hlt
      · rw [h1] at hk
        intro e
        rw [e] at hl
        exact (l17 hk).1 (List.length_eq_zero_iff.1 hl.symm)
      · refine stk_len q (i + 1) c' h3 hr ?_ j hlt hj hk
        rw [stk_succ h4]
        unfold stkF
        simp only
        by_cases k16 : o.k = 16
        · rw [if_pos (cm_yes k16), l16 k16]; simp [hl]
        · rw [if_neg (by rw [cm_no k16]; simp)]
          by_cases k17 : o.k = 17
          · rw [if_pos (cm_yes k17), (l17 k17).2]; simp [hl]
          · rw [if_neg (by rw [cm_no k17]; simp), l0 k16 k17, hl]
/-- A program of which nothing secret is let out. -/
structure Pub (regs : Int) (bs : List Bf) (os : List Lop) (m : Nat) : Prop where
  rf : ∀ o ∈ os, rfields regs bs o = true
  pass : ∀ o ∈ os, passO bs m o = m
  bad : ∀ o ∈ os, badM bs m o = false
  stk : ∀ j, j < os.length → (opAt os j).k = 17 → stkAt os j ≠ []
def NIf (bs : List Bf) (m : Nat) (x y : FS ⊕ (RS × Bool)) : Prop :=
  (∃ f g, x = .inl f ∧ y = .inl g ∧ f.pc = g.pc ∧ f.first = g.first ∧ NI bs m f.s g.s) ∨ ∃ s t ok, x = .inr (s, ok) ∧ y = .inr (t, ok) ∧ NI bs m s t
theorem ni_set {bs : List Bf} {m : Nat} {s t : RS} (h : NI bs m s t) (d : Nat) (v : Int) (l : List Ev) : NI bs m ⟨s.r.set d v, s.bufs, s.l ++ l⟩ ⟨t.r.set d v, t.bufs, t.l ++ l⟩ :=
  ⟨by simp [h.rl], fun k hk hb => by
    simp only [List.getElem?_set, h.rl]
    split
    · rfl
    · exact h.r k hk hb, h.bl, h.row, h.b, by rw [h.l]⟩
theorem fstep_ni {regs : Int} {bs : List Bf} {os : List Lop} {m : Nat} (hP : Pub regs bs os m) {pc : Nat} {first : Bool} {s t : RS} (h : NI bs m s t) : NIf bs m (fstep os ⟨pc, first, s⟩) (fstep os ⟨pc, first, t⟩) := by
  unfold fstep
  simp only
  by_cases hlt : pc < os.length
  · rw [if_pos hlt, if_pos hlt]
    obtain ⟨ho, hmem⟩ := opAt_lt hlt
    cases k16 : cm .eql (opAt os pc).k 16 with
    | true =>
      simp only [if_true]
      refine .inl ⟨_, _, rfl, rfl, rfl, rfl, ?_⟩
      cases first with
      | true => exact ni_set h _ 0 _
      | false => exact ⟨h.rl, h.r, h.bl, h.row, h.b, by simp only; rw [h.l]⟩
    | false =>
      simp only [Bool.false_eq_true, if_false]
      cases k17 : cm .eql (opAt os pc).k 17 with
      | true =>
        simp only [if_true]
        have hk : (opAt os pc).k = 17 := by simpa [cm] using k17
        have hne := hP.stk pc hlt hk
        have hmm : matchAt os pc ∈ stkAt os pc := by
          unfold matchAt; rw [List.getLast?_eq_some_getLast hne]; exact List.getLast_mem hne
        obtain ⟨hj, hj16⟩ := stk_mem pc (by omega) _ hmm
        obtain ⟨_, hom⟩ := opAt_lt (os := os) (i := matchAt os pc) (by omega)
        have hb2 : ruleM bs m (opAt os (matchAt os pc)) 2 = false := by
          have := hP.bad _ hom; simp [badM] at this; exact this.2.2
        have hd : mhas m (opAt os (matchAt os pc)).d = false := by
          have : (cm .eql (opAt os (matchAt os pc)).k 16 && mhas m (opAt os (matchAt os pc)).d) = false := hb2
          rw [cm_yes hj16, Bool.true_and] at this; exact this
        have hdr := rf_makes (hP.rf _ hom) (opAt os (matchAt os pc)).d (by rw [makes_loop hj16]; simp)
        have hreg : regAt s.r (opAt os (matchAt os pc)).d = regAt t.r (opAt os (matchAt os pc)).d := by
          unfold regAt
          rw [h.r _ hdr.1 (by unfold mhas at hd; rw [cm_ge hdr.1, Bool.true_and] at hd; exact hd)]
        rw [hreg]
        split
        · refine .inl ⟨_, _, rfl, rfl, rfl, rfl, ?_⟩
          have := ni_set h (opAt os (matchAt os pc)).d.toNat (ar .add .u64 (regAt t.r (opAt os (matchAt os pc)).d) 1) []
          simpa using this
        · exact .inl ⟨_, _, rfl, rfl, rfl, rfl, h⟩
      | false =>
        simp only [Bool.false_eq_true, if_false]
        rcases stepO_ni (i := pc) (hP.rf _ hmem) (hP.pass _ hmem) (hP.bad _ hmem) h with ⟨h1, h2⟩ | ⟨s1, t1, h1, h2, h3⟩
        · rw [h1, h2]; exact .inr ⟨_, _, _, rfl, rfl, h⟩
        · rw [h1, h2]; exact .inl ⟨_, _, rfl, rfl, rfl, rfl, h3⟩
  · rw [if_neg hlt, if_neg hlt]
    exact .inr ⟨_, _, _, rfl, rfl, h⟩
/-- Two runs that agree on what is public end alike. -/
theorem goes_ni {regs : Int} {bs : List Bf} {os : List Lop} {m : Nat} (hP : Pub regs bs os m) {f : FS} {n : Nat} {s' : RS} {ok : Bool} (h : Goes os f n (.inr (s', ok))) : ∀ t : RS, NI bs m f.s t → ∃ t', Goes os ⟨f.pc, f.first, t⟩ n (.inr (t', ok)) ∧ NI bs m s' t' := by
  generalize hy : (Sum.inr (s', ok) : FS ⊕ (RS × Bool)) = y at h
  induction h with
  | here f => cases hy
  | @done f x hd =>
    cases hy
    intro t ht
    rcases fstep_ni hP (pc := f.pc) (first := f.first) ht with ⟨f1, g1, e1, _⟩ | ⟨s1, t1, ok1, e1, e2, h3⟩
    · rw [show fstep os ⟨f.pc, f.first, f.s⟩ = fstep os f from rfl, hd] at e1; cases e1
    · rw [show fstep os ⟨f.pc, f.first, f.s⟩ = fstep os f from rfl, hd] at e1
      cases e1
      exact ⟨t1, .done e2, h3⟩
  | @go f g n x hs _ ih =>
    intro t ht
    rcases fstep_ni hP (pc := f.pc) (first := f.first) ht with ⟨f1, g1, e1, e2, h1, h2, h3⟩ | ⟨s1, t1, ok1, e1, _⟩
    · rw [show fstep os ⟨f.pc, f.first, f.s⟩ = fstep os f from rfl, hs] at e1
      cases e1
      obtain ⟨t', k1, k2⟩ := ih hy g1.s h3
      have hg : g1 = ⟨g.pc, g.first, g1.s⟩ := by cases g1; simp_all
      exact ⟨t', .go (hg ▸ e2) k1, k2⟩
    · rw [show fstep os ⟨f.pc, f.first, f.s⟩ = fstep os f from rfl, hs] at e1; cases e1
end Go.Proofs.Ytkjlgapkcdcmgaa
namespace Go.Proofs.Ytkjlgapkcdcmgaa
open Go Go.RowKit SL

def Pg.cnt : Pg → Nat
  | .nil => 0
  | .op _ r => r.cnt + 1
  | .loop o b r => o.imm.toNat * (b.cnt + 1) + r.cnt
theorem stepO_ev {o : Lop} {i : Nat} {s s' : RS} (h : stepO o i s = some s') : (∃ e : Ev, e.op = i ∧ s'.l = s.l ++ [e]) ∧ s'.bufs.length = s.bufs.length ∧ ∀ k, (bufAt s' k).length = (bufAt s k).length := by
  unfold stepO at h
  split at h
  · split at h
    · cases h
    · cases h
      refine ⟨⟨_, rfl, rfl⟩, ?_, fun k => ?_⟩
      · simp only; split
        · simp
        · rfl
      · split
        · have := bufAt_set s o.buf.toNat ((bufAt s o.buf).set (ar .add .u64 o.imm (rAt s.r o.a)).toNat (rAt s.r o.b)) k
          show (bufAt ⟨_, _, _⟩ k).length = _
          have e : bufAt ⟨s.r, s.bufs.set o.buf.toNat ((bufAt s o.buf).set (ar .add .u64 o.imm (rAt s.r o.a)).toNat (rAt s.r o.b)), s.l⟩ k = ((s.bufs.set o.buf.toNat ((bufAt s o.buf).set (ar .add .u64 o.imm (rAt s.r o.a)).toNat (rAt s.r o.b)))[k.toNat]?).getD [] := rfl
          rw [e] at this
          show (((s.bufs.set o.buf.toNat ((bufAt s o.buf).set (ar .add .u64 o.imm (rAt s.r o.a)).toNat (rAt s.r o.b)))[k.toNat]?).getD []).length = _
          rw [this]
          split
          · rename_i hk
            rw [List.length_set]; unfold bufAt; rw [hk.1]
          · rfl
        · rfl
  · cases h
    exact ⟨⟨_, rfl, rfl⟩, rfl, fun _ => rfl⟩
theorem iter_len {f : Nat → RS → RS × Bool} {c : Nat} (hf : ∀ n s, ((f n s).2 = true → (f n s).1.l.length = s.l.length + c) ∧ ((f n s).2 = false → (f n s).1.l.length < s.l.length + c)) : ∀ (m n : Nat) (s : RS),
    ((iter f n m s).2 = true → (iter f n m s).1.l.length = s.l.length + m * c) ∧ ((iter f n m s).2 = false → (iter f n m s).1.l.length < s.l.length + m * c)
  | 0, n, s => ⟨fun _ => by simp [iter], fun h => by simp [iter] at h⟩
  | m + 1, n, s => by
    have h := hf n s
    unfold iter
    rw [Nat.add_mul, Nat.one_mul]
    cases hx : f n s with
    | mk s' ok =>
      rw [hx] at h
      cases ok with
      | false =>
        refine ⟨fun g => (by cases g), fun _ => ?_⟩
        have := h.2 rfl
        simp only at this ⊢
        omega
      | true =>
        have h1 := h.1 rfl
        simp only at h1 ⊢
        have ih := iter_len hf m (n + 1) s'
        exact ⟨fun g => by rw [ih.1 g]; omega, fun g => by have := ih.2 g; omega⟩
theorem exec_len : ∀ (p : Pg) (i : Nat) (s : RS), ((p.exec i s).2 = true → (p.exec i s).1.l.length = s.l.length + p.cnt) ∧ ((p.exec i s).2 = false → (p.exec i s).1.l.length < s.l.length + p.cnt)
  | .nil, i, s => ⟨fun _ => rfl, fun h => by simp [Pg.exec] at h⟩
  | .op o r, i, s => by
    unfold Pg.exec Pg.cnt
    cases hs : stepO o i s with
    | none => exact ⟨fun h => (by cases h), fun _ => (by simp only; omega)⟩
    | some s' =>
      obtain ⟨⟨e, _, he⟩, _⟩ := stepO_ev hs
      have ih := exec_len r (i + 1) s'
      have hl : s'.l.length = s.l.length + 1 := by rw [he]; simp
      simp only
      exact ⟨fun h => by rw [ih.1 h]; omega, fun h => by have := ih.2 h; omega⟩
  | .loop o b r, i, s => by
    have hit := iter_len (f := fun n s => b.exec (i + 1) ⟨s.r.set o.d.toNat n, s.bufs, s.l ++ [⟨i, -1⟩]⟩) (c := b.cnt + 1) (fun n s => by
      have := exec_len b (i + 1) ⟨s.r.set o.d.toNat n, s.bufs, s.l ++ [⟨i, -1⟩]⟩
      simp only [List.length_append, List.length_singleton] at this
      exact ⟨fun h => by rw [this.1 h]; omega, fun h => by have := this.2 h; omega⟩) o.imm.toNat 0 s
    unfold Pg.exec Pg.cnt
    revert hit
    cases iter (fun n s => b.exec (i + 1) ⟨s.r.set o.d.toNat n, s.bufs, s.l ++ [⟨i, -1⟩]⟩) 0 o.imm.toNat s with
    | mk s' ok =>
      cases ok with
      | false => intro hit; exact ⟨fun h => (by cases h), fun _ => by have := hit.2 rfl; simp only at this ⊢; omega⟩
      | true =>
        intro hit
        have h1 := hit.1 rfl
        have ih := exec_len r (i + b.flat.length + 2) s'
        simp only at h1 ⊢
        exact ⟨fun h => by rw [ih.1 h]; omega, fun h => by have := ih.2 h; omega⟩
theorem cap_mul {v c t x : Int} (hx : 0 ≤ x) (hc : 1 ≤ c) (ht : 1 ≤ t) (hv : v = capM c) : capM ((if cm .gtr v ((1125899906842624 : Int).tdiv t) then 1125899906842624 else v * t) + x) = capM (x + t * c) := by
  have hvc : v ≤ c ∧ 1 ≤ v ∧ (v = c ∨ (v = 1125899906842624 ∧ 1125899906842624 ≤ c)) := by rw [hv]; unfold capM; split <;> omega
  have hd : (1125899906842624 : Int).tdiv t = 1125899906842624 / t := Int.tdiv_eq_ediv_of_nonneg (by omega)
  have hcv : v * t ≤ c * t := Int.mul_le_mul_of_nonneg_right hvc.1 (by omega)
  have hcomm : t * c = c * t := Int.mul_comm t c
  rw [hd, hcomm]
  by_cases hg : v > 1125899906842624 / t
  · rw [if_pos (cm_gt hg)]
    have h1 : 1125899906842624 < (1125899906842624 / t + 1) * t := Int.lt_ediv_add_one_mul_self _ (by omega)
    have h2 : (1125899906842624 / t + 1) * t ≤ v * t := Int.mul_le_mul_of_nonneg_right (by omega) (by omega)
    unfold capM
    rw [if_neg (by omega), if_neg (by omega)]
  · rw [if_neg (by rw [cm_gt' (by omega)]; simp)]
    rcases hvc.2.2 with h | ⟨h1, h2⟩
    · rw [h, Int.add_comm]
    · have h3 : v * t ≤ 1125899906842624 := (Int.le_ediv_iff_mul_le (by omega)).1 (by omega)
      rw [h1] at h3 hcv ⊢
      unfold capM
      rw [if_neg (by omega), if_neg (by omega)]
theorem steps_flat {regs : Int} {bs : List Bf} : ∀ (p : Pg) (ls : List Int), p.Safe regs bs ls → ∀ (x : Int) (A B : List Int), 0 ≤ x → x ≤ 1125899906842624 → p.flat.foldl sstep (x, A, B) = (capM (x + p.cnt), A, B)
  | .nil, ls, _, x, A, B, h0, h1 => by
    simp only [Pg.flat, List.foldl_nil, Pg.cnt]
    have : capM (x + (0 : Nat)) = x := by unfold capM; split <;> omega
    rw [this]
  | .op o r, ls, hs, x, A, B, h0, h1 => by
    obtain ⟨hf, h16, h17, _, hr⟩ := hs
    simp only [Pg.flat, List.foldl_cons, Pg.cnt]
    have e : sstep (x, A, B) o = (capM (x + 1), A, B) := by unfold sstep; rw [if_neg (by rw [cm_no h16]; simp), if_neg (by rw [cm_no h17]; simp)]
    have hb := capM_le (n := x + 1) (by omega)
    rw [e, steps_flat r ls hr _ A B hb.1 hb.2]
    have : capM (capM (x + 1) + r.cnt) = capM (x + (r.cnt + 1 : Nat)) := by
      unfold capM
      split <;> split <;> split <;> omega
    rw [this]
  | .loop o b r, ls, hs, x, A, B, h0, h1 => by
    obtain ⟨hf, h16, _, hb, hr⟩ := hs
    have him := loop_imm hf h16
    simp only [Pg.flat, List.foldl_cons, List.foldl_append, Pg.cnt]
    have e : sstep (x, A, B) o = (1, A ++ [x], B ++ [o.imm]) := by unfold sstep; rw [if_pos (cm_yes h16)]
    rw [e, steps_flat b _ hb 1 _ _ (by omega) (by omega)]
    have e2 : sstep (capM (1 + (b.cnt : Int)), A ++ [x], B ++ [o.imm]) endO = (capM (x + o.imm * (1 + b.cnt)), A, B) := by
      unfold sstep
      rw [if_neg (by simp [endO, cm]), if_pos (by simp [endO, cm])]
      simp only [lastD, List.getLast?_append, List.getLast?_singleton, Option.some_or, Option.getD_some, List.dropLast_concat]
      rw [cap_mul (c := 1 + (b.cnt : Int)) (t := o.imm) (x := x) h0 (by omega) (by omega) rfl]
    have hb2 : 0 ≤ o.imm * (1 + (b.cnt : Int)) := Int.mul_nonneg (by omega) (by omega)
    have hc := capM_le (n := x + o.imm * (1 + b.cnt)) (by omega)
    rw [e2, steps_flat r ls hr _ A B hc.1 hc.2]
    have e3 : ((o.imm.toNat * (b.cnt + 1) + r.cnt : Nat) : Int) = o.imm * (1 + b.cnt) + r.cnt := by
      rw [Int.natCast_add, Int.natCast_mul, Int.toNat_of_nonneg (by omega), Int.natCast_add, Int.add_comm (b.cnt : Int)]; rfl
    rw [e3]
    generalize o.imm * (1 + (b.cnt : Int)) = q at hb2 ⊢
    have : capM (capM (x + q) + r.cnt) = capM (x + (q + r.cnt)) := by
      unfold capM
      split <;> split <;> split <;> omega
    rw [this]
theorem steps_cnt {regs : Int} {bs : List Bf} {p : Pg} (h : p.Safe regs bs []) : stepsM p.flat = capM p.cnt := by
  unfold stepsM
  rw [steps_flat p [] h 0 [] [] (by omega) (by omega)]
  simp
theorem cnt_steps {regs : Int} {bs : List Bf} {p : Pg} (h : p.Safe regs bs []) (hs : stepsM p.flat ≤ 16777216) : (p.cnt : Int) = stepsM p.flat := by
  rw [steps_cnt h] at hs ⊢
  unfold capM at hs ⊢
  split at hs
  · rename_i hlt; rw [if_pos hlt]
  · omega
/-- What a step of the machine keeps. -/
theorem fstep_keep {regs : Int} {bs : List Bf} {os : List Lop} (hrf : ∀ o ∈ os, rfields regs bs o = true) (hstk : ∀ j, j < os.length → (opAt os j).k = 17 → stkAt os j ≠ []) {f g : FS} (h : fstep os f = .inl g) :
    f.pc < os.length ∧ g.pc ≤ os.length ∧ g.s.r.length = f.s.r.length ∧ g.s.bufs.length = f.s.bufs.length ∧ (∀ k, (bufAt g.s k).length = (bufAt f.s k).length) ∧ f.s.l.length ≤ g.s.l.length := by
  unfold fstep at h
  by_cases hlt : f.pc < os.length
  · rw [if_pos hlt] at h
    obtain ⟨ho, hmem⟩ := opAt_lt hlt
    refine ⟨hlt, ?_⟩
    cases k16 : cm .eql (opAt os f.pc).k 16 with
    | true =>
      rw [k16] at h
      simp only [if_true] at h
      cases h
      refine ⟨hlt, ?_, rfl, fun _ => rfl, by simp⟩
      simp only; split <;> simp
    | false =>
      rw [k16] at h
      simp only [Bool.false_eq_true, if_false] at h
      cases k17 : cm .eql (opAt os f.pc).k 17 with
      | true =>
        rw [k17] at h
        simp only [if_true] at h
        have hk : (opAt os f.pc).k = 17 := by simpa [cm] using k17
        have hne := hstk f.pc hlt hk
        have hmm : matchAt os f.pc ∈ stkAt os f.pc := by
          unfold matchAt; rw [List.getLast?_eq_some_getLast hne]; exact List.getLast_mem hne
        obtain ⟨hj, _⟩ := stk_mem f.pc (by omega) _ hmm
        split at h
        · cases h; exact ⟨by simp only; omega, by simp, rfl, fun _ => rfl, Nat.le_refl _⟩
        · cases h; exact ⟨hlt, rfl, rfl, fun _ => rfl, Nat.le_refl _⟩
      | false =>
        rw [k17] at h
        simp only [Bool.false_eq_true, if_false] at h
        cases hs : stepO (opAt os f.pc) f.pc f.s with
        | none => rw [hs] at h; cases h
        | some s' =>
          rw [hs] at h
          cases h
          obtain ⟨⟨e, _, he⟩, h1, h2⟩ := stepO_ev hs
          exact ⟨hlt, (stepO_keep (hrf _ hmem) hs).1, h1, h2, by simp only; rw [he]; simp⟩
  · rw [if_neg hlt] at h; cases h
theorem fstep_end {os : List Lop} {f : FS} {x : RS × Bool} (h : fstep os f = .inr x) : x.1 = f.s := by
  unfold fstep at h
  split at h
  · split at h
    · cases h
    · split at h
      · split at h <;> cases h
      · split at h
        · cases h; rfl
        · cases h
  · cases h; rfl
theorem Goes.len {regs : Int} {bs : List Bf} {os : List Lop} (hrf : ∀ o ∈ os, rfields regs bs o = true) (hstk : ∀ j, j < os.length → (opAt os j).k = 17 → stkAt os j ≠ []) {f : FS} {n : Nat} {x : RS × Bool} (h : Goes os f n (.inr x)) : f.s.l.length ≤ x.1.l.length := by
  generalize hy : (Sum.inr x : FS ⊕ (RS × Bool)) = y at h
  induction h with
  | here f => cases hy
  | done hd => cases hy; rw [fstep_end hd]; exact Nat.le_refl _
  | go hs _ ih => exact Nat.le_trans (fstep_keep hrf hstk hs).2.2.2.2.2 (ih hy)
theorem Goes.one {os : List Lop} {f : FS} {n : Nat} {x : RS × Bool} (h : Goes os f n (.inr x)) : ∀ {m : Nat} {y : RS × Bool}, Goes os f m (.inr y) → x = y := by
  generalize hz : (Sum.inr x : FS ⊕ (RS × Bool)) = z at h
  induction h with
  | here f => cases hz
  | done hd =>
    cases hz
    intro m y hy
    generalize hv : (Sum.inr y : FS ⊕ (RS × Bool)) = v at hy
    cases hy with
    | here => cases hv
    | done h2 => cases hv; rw [hd] at h2; cases h2; rfl
    | go h2 _ => rw [hd] at h2; cases h2
  | go hs _ ih =>
    intro m y hy
    generalize hv : (Sum.inr y : FS ⊕ (RS × Bool)) = v at hy
    cases hy with
    | here => cases hv
    | done h2 => rw [hs] at h2; cases h2
    | go h2 k2 => rw [hs] at h2; cases h2; subst hv; exact ih hz k2
end Go.Proofs.Ytkjlgapkcdcmgaa
