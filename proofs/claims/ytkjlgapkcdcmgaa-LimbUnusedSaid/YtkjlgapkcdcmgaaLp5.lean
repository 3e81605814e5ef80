/- LimbRounds, plain: a loop is what stands in it, written out so many times. -/
import Derived.Test.YtkjlgapkcdcmgaaLnA
set_option linter.unusedVariables false
set_option linter.unusedSimpArgs false
namespace Go.Proofs.Ytkjlgapkcdcmgaa
open Go Go.RowKit SL

def rdH : List Lop := [⟨1, 0, -1, -1, -1, -1, 0, 5⟩, ⟨1, 1, -1, -1, -1, -1, 0, 9223372036854775808⟩, ⟨1, 2, -1, -1, -1, -1, 0, 1⟩]
def rdL (t : Int) : Lop := ⟨16, 5, -1, -1, -1, -1, 0, t⟩
def rdC (i : Int) : Lop := ⟨1, 5, -1, -1, -1, -1, 0, i⟩
def rdA (ops : List Lop) (t : Nat) : List Lop := rdH ++ (rdL t :: (ops ++ [endO]))
def rdS (ops : List Lop) : Nat → Nat → List Lop
  | _, 0 => []
  | n, m + 1 => rdC n :: (ops ++ rdS ops (n + 1) m)
theorem rdS_snoc (ops : List Lop) : ∀ (m n : Nat), rdS ops n (m + 1) = rdS ops n m ++ (rdC ((n + m : Nat) : Int) :: ops)
  | 0, n => by simp [rdS]
  | m + 1, n => by
    rw [show rdS ops n (m + 1 + 1) = rdC n :: (ops ++ rdS ops (n + 1) (m + 1)) from rfl, rdS_snoc ops m (n + 1)]
    rw [show rdS ops n (m + 1) = rdC n :: (ops ++ rdS ops (n + 1) m) from rfl, show n + 1 + m = n + (m + 1) by omega]
    simp
def rdB (ops : List Lop) (t : Nat) : List Lop := rdH ++ rdS ops 0 t
theorem rdS_len (ops : List Lop) : ∀ (m n : Nat), (rdS ops n m).length = m * (ops.length + 1)
  | 0, n => by simp [rdS]
  | m + 1, n => by
    show (rdC n :: (ops ++ rdS ops (n + 1) m)).length = _
    rw [List.length_cons, List.length_append, rdS_len ops m]
    rw [Nat.succ_mul]; omega
/-- A chain of operations. -/
def ch (os : List Lop) (q : Pg) : Pg := os.foldr Pg.op q
theorem ch_flat : ∀ (os : List Lop) (q : Pg), (ch os q).flat = os ++ q.flat
  | [], q => rfl
  | o :: os, q => by show o :: (ch os q).flat = _; rw [ch_flat os q]; rfl
theorem ch_cnt : ∀ (os : List Lop) (q : Pg), (ch os q).cnt = os.length + q.cnt
  | [], q => by show q.cnt = _; simp
  | o :: os, q => by show (ch os q).cnt + 1 = _; rw [ch_cnt os q]; simp; omega
theorem ch_safe {regs : Int} {bs : List Bf} {ls : List Int} : ∀ (os : List Lop) (q : Pg), (∀ o ∈ os, rfields regs bs o = true ∧ o.k ≠ 16 ∧ o.k ≠ 17 ∧ ∀ x ∈ makesM o, x ∉ ls) → q.Safe regs bs ls → (ch os q).Safe regs bs ls
  | [], q, _, h => h
  | o :: os, q, h, hq => by
    obtain ⟨h1, h2, h3, h4⟩ := h o (by simp)
    exact ⟨h1, h2, h3, h4, ch_safe os q (fun x hx => h x (by simp [hx])) hq⟩
/-- Rounds, written out. -/
def rds (ops : List Lop) : Nat → Nat → Pg
  | _, 0 => .nil
  | n, m + 1 => .op (rdC n) (ch ops (rds ops (n + 1) m))
theorem rds_flat (ops : List Lop) : ∀ (m n : Nat), (rds ops n m).flat = rdS ops n m
  | 0, n => rfl
  | m + 1, n => by
    show rdC n :: (ch ops (rds ops (n + 1) m)).flat = _
    rw [ch_flat, rds_flat ops m]; rfl
theorem rds_cnt (ops : List Lop) : ∀ (m n : Nat), (rds ops n m).cnt = m * (ops.length + 1)
  | 0, n => by show 0 = _; simp
  | m + 1, n => by
    show (ch ops (rds ops (n + 1) m)).cnt + 1 = _
    rw [ch_cnt, rds_cnt ops m, Nat.succ_mul]; omega
theorem rf_C (bs : List Bf) (i : Int) : rfields 6 bs (rdC i) = true := by
  simp [rfields, rdC, rbad, fieldM, cm, hasE, mem]
theorem rds_safe {bs : List Bf} {ops : List Lop} (h : ∀ o ∈ ops, rfields 6 bs o = true ∧ o.k ≠ 16 ∧ o.k ≠ 17) : ∀ (m n : Nat), (rds ops n m).Safe 6 bs []
  | 0, n => trivial
  | m + 1, n => by
    refine ⟨rf_C bs n, by show (1 : Int) ≠ 16; decide, by show (1 : Int) ≠ 17; decide, (fun x _ hx => by cases hx), ?_⟩
    exact ch_safe ops _ (fun o ho => ⟨(h o ho).1, (h o ho).2.1, (h o ho).2.2, (fun x _ hx => by cases hx)⟩) (rds_safe h m (n + 1))
theorem exec_nil (i : Nat) (s : RS) : Pg.nil.exec i s = (s, true) := by rw [Pg.exec]
theorem exec_op (o : Lop) (r : Pg) (i : Nat) (s : RS) : (Pg.op o r).exec i s = (match stepO o i s with
    | none => (s, false)
    | some s' => r.exec (i + 1) s') := by
  rw [Pg.exec]
  cases stepO o i s <;> rfl
theorem exec_loop (o : Lop) (b r : Pg) (i : Nat) (s : RS) : (Pg.loop o b r).exec i s = (match iter (fun n s => b.exec (i + 1) ⟨s.r.set o.d.toNat n, s.bufs, s.l ++ [⟨i, -1⟩]⟩) 0 o.imm.toNat s with
    | (s', false) => (s', false)
    | (s', true) => r.exec (i + b.flat.length + 2) s') := by
  rw [Pg.exec]
  cases iter (fun n s => b.exec (i + 1) ⟨s.r.set o.d.toNat n, s.bufs, s.l ++ [⟨i, -1⟩]⟩) 0 o.imm.toNat s with
  | mk a c => cases c <;> rfl
/-- The same but for the places of operations. -/
def SimP (s t : RS) : Prop := t.r = s.r ∧ t.bufs = s.bufs ∧ t.l.map (·.at_) = s.l.map (·.at_)
theorem stepO_simP {o : Lop} {i j : Nat} {s t : RS} (h : SimP s t) : (stepO o i s = none ∧ stepO o j t = none) ∨ ∃ s' t', stepO o i s = some s' ∧ stepO o j t = some t' ∧ SimP s' t' := by
  obtain ⟨h1, h2, h3⟩ := h
  have hb : ∀ k, bufAt t k = bufAt s k := fun k => by unfold bufAt; rw [h2]
  unfold stepO
  rw [h1, hb, h2]
  split
  · split
    · exact .inl ⟨rfl, rfl⟩
    · exact .inr ⟨_, _, rfl, rfl, rfl, rfl, by simp [h3]⟩
  · exact .inr ⟨_, _, rfl, rfl, rfl, rfl, by simp [h3]⟩
theorem ch_simP : ∀ (os : List Lop) (p q : Pg) (i j : Nat) (s t : RS), SimP s t →
    (∃ s' t', (ch os p).exec i s = (s', false) ∧ (ch os q).exec j t = (t', false) ∧ SimP s' t') ∨
    ∃ s' t', (ch os p).exec i s = p.exec (i + os.length) s' ∧ (ch os q).exec j t = q.exec (j + os.length) t' ∧ SimP s' t'
  | [], p, q, i, j, s, t, h => .inr ⟨s, t, rfl, rfl, h⟩
  | o :: os, p, q, i, j, s, t, h => by
    show (∃ s' t', (Pg.op o (ch os p)).exec i s = (s', false) ∧ (Pg.op o (ch os q)).exec j t = (t', false) ∧ SimP s' t') ∨ ∃ s' t', (Pg.op o (ch os p)).exec i s = _ ∧ (Pg.op o (ch os q)).exec j t = _ ∧ SimP s' t'
    rw [exec_op, exec_op]
    rcases stepO_simP (i := i) (j := j) (o := o) h with ⟨e1, e2⟩ | ⟨s1, t1, e1, e2, h1⟩
    · rw [e1, e2]; exact .inl ⟨s, t, rfl, rfl, h⟩
    · rw [e1, e2]
      simp only
      have := ch_simP os p q (i + 1) (j + 1) s1 t1 h1
      rw [show i + 1 + os.length = i + (o :: os).length by simp; omega, show j + 1 + os.length = j + (o :: os).length by simp; omega] at this
      exact this
theorem rounds_simP (ops : List Lop) (i : Nat) : ∀ (m n j : Nat) (s t : RS), SimP s t →
    ((rds ops n m).exec j t).2 = (iter (fun n s => (ch ops .nil).exec (i + 1) ⟨s.r.set 5 n, s.bufs, s.l ++ [⟨i, -1⟩]⟩) n m s).2 ∧
    SimP (iter (fun n s => (ch ops .nil).exec (i + 1) ⟨s.r.set 5 n, s.bufs, s.l ++ [⟨i, -1⟩]⟩) n m s).1 ((rds ops n m).exec j t).1
  | 0, n, j, s, t, h => ⟨rfl, h⟩
  | m + 1, n, j, s, t, h => by
    have e0 : (rds ops n (m + 1)).exec j t = (ch ops (rds ops (n + 1) m)).exec (j + 1) ⟨t.r.set 5 n, t.bufs, t.l ++ [⟨j, -1⟩]⟩ := by
      show (Pg.op (rdC n) (ch ops (rds ops (n + 1) m))).exec j t = _
      rw [exec_op]
      have : stepO (rdC n) j t = some ⟨t.r.set 5 n, t.bufs, t.l ++ [⟨j, -1⟩]⟩ := by
        simp [stepO, rdC, cm, putR, makeV]
      rw [this]
    have h0 : SimP ⟨s.r.set 5 n, s.bufs, s.l ++ [⟨i, -1⟩]⟩ ⟨t.r.set 5 n, t.bufs, t.l ++ [⟨j, -1⟩]⟩ := ⟨by rw [h.1], h.2.1, by simp [h.2.2]⟩
    rw [e0]
    unfold iter
    rcases ch_simP ops .nil (rds ops (n + 1) m) (i + 1) (j + 1) _ _ h0 with ⟨s', t', e1, e2, h1⟩ | ⟨s', t', e1, e2, h1⟩
    · rw [e1, e2]; exact ⟨rfl, h1⟩
    · rw [e1, e2]
      rw [exec_nil]
      exact rounds_simP ops i m (n + 1) _ s' t' h1
/-- What a row of operations without loops leaves of a checker. -/
theorem ops_rrun {regs : Int} {bs : List Bf} : ∀ (os : List Lop) (rest : List Lop) (i : Nat) (c : Ck), (∀ o ∈ os, o.k ≠ 16 ∧ o.k ≠ 17) → (rrun regs bs (os ++ rest) i c).2 = 0 →
    (∀ o ∈ os, rfields regs bs o = true ∧ ∀ x ∈ makesM o, x ∉ c.loops) ∧ (∃ c', c'.loops = c.loops ∧ (rrun regs bs rest (i + os.length) c').2 = 0) ∧
    ∀ d : Ck, (∀ k : Nat, c.made[k]? = some true → d.made[k]? = some true) → d.made.length = c.made.length → d.loops = [] →
      ∃ d' : Ck, d'.loops = [] ∧ d'.made.length = d.made.length ∧ (∀ k : Nat, d.made[k]? = some true → d'.made[k]? = some true) ∧ ∀ j rest', rrun regs bs (os ++ rest') j d = rrun regs bs rest' (j + os.length) d'
  | [], rest, i, c, hk, h => ⟨(fun o ho => by cases ho), ⟨c, rfl, h⟩, fun d h1 h2 h3 => ⟨d, h3, rfl, (fun _ h => h), fun j rest' => rfl⟩⟩
  | o :: os, rest, i, c, hk, h => by
    have h' : (rrun regs bs (o :: (os ++ rest)) i c).2 = 0 := h
    obtain ⟨h16, h17⟩ := hk o (by simp)
    unfold rrun at h'
    cases hst : rstep regs bs c o with
    | inl e => rw [hst] at h'; have := rstep_ne hst; simp only at h'; omega
    | inr c1 =>
      rw [hst] at h'
      simp only at h'
      obtain ⟨hf, htk, hmk, _, hlp⟩ := rstep_op hst h17
      have hin : (makesM o).any (fun r => c.loops.contains r) = false := by
        unfold rstep at hst
        rw [hf] at hst
        simp only [if_true] at hst
        rw [if_neg (by rw [cm_no h17]; simp)] at hst
        split at hst
        · cases hst
        · rename_i h; simpa using h
      obtain ⟨k1, ⟨c', k2, k3⟩, k4⟩ := ops_rrun os rest (i + 1) c1 (fun x hx => hk x (by simp [hx])) h'
      have hl := hlp h16
      refine ⟨fun x hx => ?_, ⟨c', k2.trans hl, by rw [show i + (o :: os).length = i + 1 + os.length by simp; omega]; exact k3⟩, fun d h1 h2 h3 => ?_⟩
      · rcases List.mem_cons.1 hx with rfl | hx
        · refine ⟨hf, fun y hy hy2 => ?_⟩
          have := List.any_eq_false.1 hin y hy
          exact this (List.contains_iff_mem.2 hy2)
        · have := k1 x hx
          rw [hl] at this
          exact this
      · have hd : rstep regs bs d o = .inr ⟨setAll d.made (makesM o), []⟩ := by
          unfold rstep
          rw [hf]
          simp only [if_true]
          rw [if_neg (by rw [cm_no h17]; simp), h3, if_neg (by simp), if_neg (by rw [cm_no h16]; simp), if_neg (by rw [cm_no h16]; simp), if_neg, if_neg (by rw [cm_no h16]; simp)]
          intro hh
          obtain ⟨r, hr, hr2⟩ := List.any_eq_true.1 hh
          have := htk r hr
          have : mdAt d.made r = true := by
            unfold mdAt at this ⊢
            cases hx : c.made[r.toNat]? with
            | none => rw [hx] at this; cases this
            | some x =>
              rw [hx] at this
              simp only [Option.getD_some] at this
              rw [this] at hx
              rw [h1 _ hx]; rfl
          rw [this] at hr2; cases hr2
        obtain ⟨d', q1, q2, q3, q4⟩ := k4 ⟨setAll d.made (makesM o), []⟩ (fun k hk => by rw [hmk] at hk; exact setAll_le h1 h2 _ k hk) (by simp only; rw [setAll_len2, hmk, setAll_len2, h2]) rfl
        refine ⟨d', q1, by rw [q2]; simp only; rw [setAll_len2], fun k hk => q3 k (setAll_mono _ _ hk), fun j rest' => ?_⟩
        show (match rstep regs bs d o with | .inl e => (((j : Nat) : Int), e) | .inr c'' => rrun regs bs (os ++ rest') (j + 1) c'') = _
        rw [hd]
        simp only
        rw [q4, show j + 1 + os.length = j + (o :: os).length by simp; omega]
theorem rstep_C {bs : List Bf} {d : Ck} (i : Int) (h : d.loops = []) : rstep 6 bs d (rdC i) = .inr ⟨d.made.set 5 true, []⟩ := by
  unfold rstep
  rw [rf_C]
  simp only [if_true, h]
  rfl
/-- Rounds may be. -/
theorem rounds_rrun {bs : List Bf} {ops : List Lop} {c : Ck} (h : ∀ d : Ck, (∀ k : Nat, c.made[k]? = some true → d.made[k]? = some true) → d.made.length = c.made.length → d.loops = [] →
      ∃ d' : Ck, d'.loops = [] ∧ d'.made.length = d.made.length ∧ (∀ k : Nat, d.made[k]? = some true → d'.made[k]? = some true) ∧ ∀ j rest', rrun 6 bs (ops ++ rest') j d = rrun 6 bs rest' (j + ops.length) d') :
    ∀ (m n j : Nat) (d : Ck), (∀ k : Nat, c.made[k]? = some true → (d.made.set 5 true)[k]? = some true) → d.made.length = c.made.length → d.loops = [] → (rrun 6 bs (rdS ops n m) j d).2 = 0
  | 0, n, j, d, h1, h2, h3 => by
    show (rrun 6 bs [] j d).2 = 0
    unfold rrun
    rw [if_pos h3]
  | m + 1, n, j, d, h1, h2, h3 => by
    show (rrun 6 bs (rdC n :: (ops ++ rdS ops (n + 1) m)) j d).2 = 0
    unfold rrun
    rw [rstep_C n h3]
    simp only
    obtain ⟨d', q1, q2, q3, q4⟩ := h ⟨d.made.set 5 true, []⟩ h1 (by simp only; rw [List.length_set, h2]) rfl
    rw [q4]
    refine rounds_rrun h m (n + 1) _ d' (fun k hk => set_mono (q3 k (h1 k hk))) (by rw [q2]; simp only; rw [List.length_set, h2]) q1
theorem rf_mem {regs : Int} {bs : List Bf} {os : List Lop} (he : (checkM regs bs os).2 = 0) : ∀ o ∈ os, rfields regs bs o = true := (check_ok he).2.2.2.2.2.2
/-- What is known of a loop that may be. -/
theorem rdA_ok {bs : List Bf} {ops : List Lop} {t : Nat} (he : (checkM 6 bs (rdA ops t)).2 = 0) (hk : ∀ o ∈ ops, o.k ≠ 16 ∧ o.k ≠ 17) :
    (∀ o ∈ ops, rfields 6 bs o = true ∧ ∀ x ∈ makesM o, x ∉ [(5 : Int)]) ∧ ∀ m n j, (rrun 6 bs (rdH ++ rdS ops n m) j ⟨List.replicate 6 false, []⟩).2 = 0 := by
  have hr := rrun_all he
  have hfL : rfields 6 bs (rdL t) = true := rf_mem he _ (by simp [rdA])
  have hH : ∀ (j : Nat) (rest : List Lop), rrun 6 bs (rdH ++ rest) j ⟨List.replicate 6 false, []⟩ = rrun 6 bs rest (j + 3) ⟨[true, true, true, false, false, false], []⟩ := by
    intro j rest
    have f0 : rfields 6 bs ⟨1, 0, -1, -1, -1, -1, 0, 5⟩ = true := by simp [rfields, rbad, fieldM, cm, hasE, mem]
    have f1 : rfields 6 bs ⟨1, 1, -1, -1, -1, -1, 0, 9223372036854775808⟩ = true := by simp [rfields, rbad, fieldM, cm, hasE, mem]
    have f2 : rfields 6 bs ⟨1, 2, -1, -1, -1, -1, 0, 1⟩ = true := by simp [rfields, rbad, fieldM, cm, hasE, mem]
    have e0 : rstep 6 bs ⟨[false, false, false, false, false, false], []⟩ ⟨1, 0, -1, -1, -1, -1, 0, 5⟩ = .inr ⟨[true, false, false, false, false, false], []⟩ := by unfold rstep; rw [f0]; rfl
    have e1 : rstep 6 bs ⟨[true, false, false, false, false, false], []⟩ ⟨1, 1, -1, -1, -1, -1, 0, 9223372036854775808⟩ = .inr ⟨[true, true, false, false, false, false], []⟩ := by unfold rstep; rw [f1]; rfl
    have e2 : rstep 6 bs ⟨[true, true, false, false, false, false], []⟩ ⟨1, 2, -1, -1, -1, -1, 0, 1⟩ = .inr ⟨[true, true, true, false, false, false], []⟩ := by unfold rstep; rw [f2]; rfl
    show rrun 6 bs (⟨1, 0, -1, -1, -1, -1, 0, 5⟩ :: ⟨1, 1, -1, -1, -1, -1, 0, 9223372036854775808⟩ :: ⟨1, 2, -1, -1, -1, -1, 0, 1⟩ :: rest) j ⟨[false, false, false, false, false, false], []⟩ = _
    rw [show rrun 6 bs (⟨1, 0, -1, -1, -1, -1, 0, 5⟩ :: ⟨1, 1, -1, -1, -1, -1, 0, 9223372036854775808⟩ :: ⟨1, 2, -1, -1, -1, -1, 0, 1⟩ :: rest) j ⟨[false, false, false, false, false, false], []⟩ = (match rstep 6 bs ⟨[false, false, false, false, false, false], []⟩ ⟨1, 0, -1, -1, -1, -1, 0, 5⟩ with | .inl e => (((j : Nat) : Int), e) | .inr c'' => rrun 6 bs (⟨1, 1, -1, -1, -1, -1, 0, 9223372036854775808⟩ :: ⟨1, 2, -1, -1, -1, -1, 0, 1⟩ :: rest) (j + 1) c'') from rfl, e0]
    simp only
    rw [show rrun 6 bs (⟨1, 1, -1, -1, -1, -1, 0, 9223372036854775808⟩ :: ⟨1, 2, -1, -1, -1, -1, 0, 1⟩ :: rest) (j + 1) ⟨[true, false, false, false, false, false], []⟩ = (match rstep 6 bs ⟨[true, false, false, false, false, false], []⟩ ⟨1, 1, -1, -1, -1, -1, 0, 9223372036854775808⟩ with | .inl e => (((j + 1 : Nat) : Int), e) | .inr c'' => rrun 6 bs (⟨1, 2, -1, -1, -1, -1, 0, 1⟩ :: rest) (j + 1 + 1) c'') from rfl, e1]
    simp only
    rw [show rrun 6 bs (⟨1, 2, -1, -1, -1, -1, 0, 1⟩ :: rest) (j + 1 + 1) ⟨[true, true, false, false, false, false], []⟩ = (match rstep 6 bs ⟨[true, true, false, false, false, false], []⟩ ⟨1, 2, -1, -1, -1, -1, 0, 1⟩ with | .inl e => (((j + 1 + 1 : Nat) : Int), e) | .inr c'' => rrun 6 bs rest (j + 1 + 1 + 1) c'') from rfl, e2]
  have hr2 : (rrun 6 bs (rdH ++ (rdL t :: (ops ++ [endO]))) 0 ⟨List.replicate 6 false, []⟩).2 = 0 := hr
  rw [hH] at hr2
  unfold rrun at hr2
  cases hst : rstep 6 bs ⟨[true, true, true, false, false, false], []⟩ (rdL t) with
  | inl e => rw [hst] at hr2; have := rstep_ne hst; simp only at hr2; omega
  | inr c1 =>
    rw [hst] at hr2
    simp only at hr2
    have hc1 : c1 = ⟨[true, true, true, false, false, true], [5]⟩ := by
      unfold rstep at hst
      rw [hfL] at hst
      cases hst; rfl
    subst hc1
    obtain ⟨k1, _, k4⟩ := ops_rrun ops [endO] _ _ hk hr2
    refine ⟨k1, fun m n j => ?_⟩
    rw [hH]
    refine rounds_rrun k4 m n _ _ (fun k hk => hk) rfl rfl
def rdPA (ops : List Lop) (t : Nat) : Pg := ch rdH (.loop (rdL t) (ch ops .nil) .nil)
def rdPB (ops : List Lop) (t : Nat) : Pg := ch rdH (rds ops 0 t)
/-- The law. -/
theorem rounds_law {bs : List Bf} {ops : List Lop} {t : Nat} {rs : Rws} (he : (checkM 6 bs (rdA ops t)).2 = 0) (hk : ∀ o ∈ ops, o.k ≠ 16 ∧ o.k ≠ 17) (hn : ops.length ≤ 20) (ht : t ≤ 8) :
    (outR 6 bs (rdB ops t) rs).1 = (outR 6 bs (rdA ops t) rs).1 ∧ (outR 6 bs (rdB ops t) rs).2.1 = (outR 6 bs (rdA ops t) rs).2.1 ∧ (outR 6 bs (rdB ops t) rs).2.2.map (·.at_) = (outR 6 bs (rdA ops t) rs).2.2.map (·.at_) := by
  obtain ⟨hops, hB⟩ := rdA_ok he hk
  obtain ⟨_, _, _, hbl, _, hh, hrf⟩ := check_ok he
  have hfL : rfields 6 bs (rdL t) = true := rf_mem he _ (by simp [rdA])
  have hH : ∀ o ∈ rdH, rfields 6 bs o = true ∧ o.k ≠ 16 ∧ o.k ≠ 17 ∧ ∀ x ∈ makesM o, x ∉ ([] : List Int) := fun o ho => ⟨hrf o (by simp [rdA, ho]), by simp [rdH] at ho; rcases ho with rfl | rfl | rfl <;> decide, by simp [rdH] at ho; rcases ho with rfl | rfl | rfl <;> decide, fun x _ hx => by cases hx⟩
  have hSA : (rdPA ops t).Safe 6 bs [] := ch_safe _ _ hH ⟨hfL, rfl, (fun h => by cases h), ch_safe _ _ (fun o ho => ⟨(hops o ho).1, (hk o ho).1, (hk o ho).2, (hops o ho).2⟩) trivial, trivial⟩
  have hSB : (rdPB ops t).Safe 6 bs [] := ch_safe _ _ hH (rds_safe (fun o ho => ⟨(hops o ho).1, hk o ho⟩) t 0)
  have hFA : rdA ops t = (rdPA ops t).flat := by
    unfold rdPA rdA
    rw [ch_flat]
    show _ = rdH ++ (rdL t :: ((ch ops .nil).flat ++ endO :: Pg.nil.flat))
    rw [ch_flat]; simp [Pg.flat]
  have hFB : rdB ops t = (rdPB ops t).flat := by
    unfold rdPB rdB
    rw [ch_flat, rds_flat]
  have hle : t * (ops.length + 1) ≤ 8 * 21 := Nat.mul_le_mul ht (by omega)
  have heB : (checkM 6 bs (rdB ops t)).2 = 0 := by
    have hlen : (rdB ops t).length = 3 + t * (ops.length + 1) := by unfold rdB; rw [List.length_append, rdS_len]; rfl
    have hh2 : rhead 6 bs (rdB ops t).length = none := by
      unfold rhead at hh ⊢
      split at hh
      · cases hh
      · rename_i h1
        rw [if_neg]
        · exact hh
        · simp only [Bool.or_eq_true, not_or] at h1 ⊢
          exact ⟨h1.1, by simp [cm]; omega⟩
    unfold checkM
    rw [hh2]
    exact hB t 0 0
  have hcA : (rdPA ops t).cnt = 3 + t * (ops.length + 1) := by
    unfold rdPA
    rw [ch_cnt]
    show 3 + (Pg.loop (rdL t) (ch ops .nil) .nil).cnt = _
    show 3 + ((t : Int).toNat * ((ch ops .nil).cnt + 1) + 0) = _
    rw [ch_cnt, Int.toNat_natCast]
    show 3 + (t * (ops.length + 0 + 1) + 0) = _
    simp
  have hcB : (rdPB ops t).cnt = 3 + t * (ops.length + 1) := by
    unfold rdPB
    rw [ch_cnt, rds_cnt]; rfl
  have hsA : stepsM (rdA ops t) ≤ 16777216 := by
    rw [hFA, steps_cnt hSA, hcA]
    unfold capM
    split <;> omega
  have hsB : stepsM (rdB ops t) ≤ 16777216 := by
    rw [hFB, steps_cnt hSB, hcB]
    unfold capM
    split <;> omega
  cases hro : rowsM bs rs with
  | false =>
    have e1 : outR 6 bs (rdA ops t) rs = (2, [], []) := by unfold outR; rw [if_neg (by omega), if_neg (by omega), if_pos hro]
    have e2 : outR 6 bs (rdB ops t) rs = (2, [], []) := by unfold outR; rw [if_neg (by omega), if_neg (by omega), if_pos hro]
    rw [e1, e2]
    exact ⟨rfl, rfl, rfl⟩
  | true =>
    rw [out_run he hsA hro, out_run heB hsB hro, show treeOf (rdA ops t) = rdPA ops t by rw [hFA]; exact tree_eq hSA, show treeOf (rdB ops t) = rdPB ops t by rw [hFB]; exact tree_eq hSB]
    have key : ((rdPB ops t).exec 0 (initL bs rs)).2 = ((rdPA ops t).exec 0 (initL bs rs)).2 ∧ SimP ((rdPA ops t).exec 0 (initL bs rs)).1 ((rdPB ops t).exec 0 (initL bs rs)).1 := by
      unfold rdPA rdPB
      rcases ch_simP rdH (.loop (rdL t) (ch ops .nil) .nil) (rds ops 0 t) 0 0 (initL bs rs) (initL bs rs) ⟨rfl, rfl, rfl⟩ with ⟨s', t', e1, e2, h⟩ | ⟨s', t', e1, e2, h⟩
      · rw [e1, e2]; exact ⟨rfl, h⟩
      · rw [e1, e2]
        have hr := rounds_simP ops (0 + rdH.length) t 0 (0 + rdH.length) s' t' h
        rw [exec_loop]
        have e5 : (rdL t).d.toNat = 5 := rfl
        have e6 : (rdL (t : Int)).imm.toNat = t := Int.toNat_natCast t
        rw [e5, e6]
        revert hr
        cases iter (fun n s => (ch ops .nil).exec (0 + rdH.length + 1) ⟨s.r.set 5 n, s.bufs, s.l ++ [⟨((0 + rdH.length : Nat) : Int), -1⟩]⟩) 0 t s' with
        | mk a b =>
          intro hr
          cases b with
          | false => exact hr
          | true => simp only at hr ⊢; rw [exec_nil]; exact hr
    obtain ⟨h1, h2⟩ := key
    rw [h1]
    split
    · exact ⟨rfl, h2.2.1, h2.2.2⟩
    · exact ⟨rfl, rfl, h2.2.2⟩
end Go.Proofs.Ytkjlgapkcdcmgaa
