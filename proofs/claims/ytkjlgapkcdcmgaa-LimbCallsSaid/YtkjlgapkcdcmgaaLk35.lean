/- keysmithref12's run: do: plain; what a run holds. -/
import Derived.Test.YtkjlgapkcdcmgaaLk34
import Derived.Test.YtkjlgapkcdcmgaaSepGZ
set_option linter.unusedVariables false
set_option linter.unusedSimpArgs false
namespace Go.Proofs.Ytkjlgapkcdcmgaa
open Go Go.RowKit SL
section
variable {P : Program} {Q : Exit → Act → World → Prop} {s : St} {E : Env} {M : Hp} {x y : Code}
/-- Two pieces of code are joined: what holds between them, told of ghosts. -/
theorem SL.C.join {α : Type} (G : α → Prop) (EI : α → Env) (MI : α → Hp) (h : C P x (Exit.then (fun a w => ∃ z, G z ∧ Sat s (EI z) (MI z) a w) Q) s E M)
    (k : ∀ z, G z → C P y Q s (EI z) (MI z)) : C P (.seq x y) Q s E M := by
  refine C.seq fun a w hs => wpIn_mono (h a w hs) ?_
  intro e a' w' hq
  cases e with
  | normal => obtain ⟨z, hz, hsz⟩ := hq; exact k z hz a' w' hsz
  | exit id => exact hq
  | goto l => exact hq
  | ret => exact hq
  | panic ch => exact hq
  | outgrown => exact hq
end
attribute [local irreducible] SL.L SL.C SL.D SL.N SL.H SL.QL SL.QW SL.QP

/-- What a run holds of its own. -/
structure HG where
  ry : OS
  y : OS
  ys : List OS
  ly : OS
structure RunG (s : RS) (h : HG) : Prop where
  r : osG 1 s.r.length (s.r.map u64) h.ry
  b : rowsG s.bufs h.ys
  y : osG 1 s.bufs.length (rowsV s.bufs h.ys) h.y
  l : osG 2 s.l.length (s.l.flatMap encE) h.ly
def runC (regs : Int) (vb vo : Value) (s : RS) (h : HG) : List Value := [.int .i64 regs, vb, vo, osV s.r.length h.ry, osV s.bufs.length h.y, osV s.l.length h.ly]
def runHp (xb : Nat) (regs : Int) (vb vo : Value) (s : RS) (h : HG) : Hp :=
  (xb, ob (runC regs vb vo s h) 88) :: (osC 37 h.ry [] ++ (osC 47 h.y [] ++ (rowsHp h.ys ++ osC 55 h.ly [])))
theorem rows_cut {ys : List OS} {k : Nat} {y : OS} (h : ys[k]? = some y) : rowsHp ys = rowsHp (ys.take k) ++ (osC 37 y [] ++ rowsHp (ys.drop (k + 1))) := by
  have hk := (List.getElem?_eq_some_iff.1 h).1
  have he := (List.getElem?_eq_some_iff.1 h).2
  conv => lhs; rw [← List.take_append_drop k ys, List.drop_eq_getElem_cons hk, he]
  unfold rowsHp
  rw [List.flatMap_append, List.flatMap_cons]
theorem rows_set {ys : List OS} {k : Nat} {y z : OS} (h : ys[k]? = some y) : rowsHp (ys.set k z) = rowsHp (ys.take k) ++ (osC 37 z [] ++ rowsHp (ys.drop (k + 1))) := by
  have hk := (List.getElem?_eq_some_iff.1 h).1
  rw [rows_cut (y := z) (k := k) (by rw [List.getElem?_set_self hk])]
  rw [List.take_set_of_le (Nat.le_refl _), List.drop_set_of_lt (by omega)]
theorem rowsV_at {ls : List (List Int)} {ys : List OS} {k : Nat} {l : List Int} {y : OS} (hl : ls[k]? = some l) (hy : ys[k]? = some y) : (rowsV ls ys)[k * 1 + 0]? = some (osV l.length y) := by
  unfold rowsV
  rw [Nat.mul_one, Nat.add_zero, List.getElem?_map, show (ls.zip ys)[k]? = some (l, y) from List.getElem?_zip_eq_some.2 ⟨hl, hy⟩]; rfl
theorem rowsV_keep {ls : List (List Int)} {ys : List OS} {k : Nat} {l l' : List Int} {y y' : OS} (hl : ls[k]? = some l) (hy : ys[k]? = some y) (he : osV l'.length y' = osV l.length y) : rowsV (ls.set k l') (ys.set k y') = rowsV ls ys := by
  unfold rowsV
  apply List.ext_getElem?
  intro j
  rw [List.getElem?_map, List.getElem?_map, List.zip_eq_zipWith, List.zip_eq_zipWith, List.getElem?_zipWith, List.getElem?_zipWith]
  by_cases h : k = j
  · subst h
    rw [List.getElem?_set_self (List.getElem?_eq_some_iff.1 hl).1, List.getElem?_set_self (List.getElem?_eq_some_iff.1 hy).1, hl, hy]
    simp [he]
  · rw [List.getElem?_set_ne h, List.getElem?_set_ne h]
theorem rowsG_set {ls : List (List Int)} {ys : List OS} {k : Nat} {l' : List Int} {y' : OS} (hG : rowsG ls ys) (h' : osG 1 l'.length (l'.map u64) y') : rowsG (ls.set k l') (ys.set k y') := by
  refine ⟨by simp [hG.1], fun i l y hl hy => ?_⟩
  rw [List.getElem?_set] at hl hy
  by_cases h : k = i
  · subst h
    rw [if_pos rfl] at hl hy
    split at hl
    · cases hl
      split at hy
      · cases hy; exact h'
      · cases hy
    · cases hl
  · rw [if_neg h] at hl hy
    exact hG.2 i l y hl hy
theorem putR_ge {r : List Int} {k v : Int} (h : 0 ≤ k) : putR r k v = r.set k.toNat v := by unfold putR; rw [if_pos (cm_ge h)]
theorem RunG.put {s : RS} {h : HG} (hg : RunG s h) {k v : Int} (hk : 0 ≤ k) : RunG ⟨putR s.r k v, s.bufs, s.l⟩ { h with ry := osSet h.ry (k.toNat * 1 + 0) (.int .u64 v) } := by
  refine ⟨?_, hg.b, hg.y, hg.l⟩
  show osG 1 (putR s.r k v).length ((putR s.r k v).map u64) _
  rw [putR_len, putR_ge hk, List.map_set]
  have := hg.r.set (k := k.toNat * 1 + 0) (v := .int .u64 v)
  rwa [Nat.mul_one, Nat.add_zero] at this ⊢
theorem runC_put (regs : Int) (vb vo : Value) (s : RS) (h : HG) (k v : Int) (j : Nat) (u : Value) : runC regs vb vo ⟨putR s.r k v, s.bufs, s.l⟩ { h with ry := osSet h.ry j u } = runC regs vb vo s h := by
  unfold runC; simp only [putR_len, osV_set]
theorem RunG.ev {s : RS} {h : HG} (hg : RunG s h) {e : Ev} {y' : OS} (hy : osG 2 (s.l.length + 1) (s.l.flatMap encE ++ encE e) y') : RunG ⟨s.r, s.bufs, s.l ++ [e]⟩ { h with ly := y' } := by
  refine ⟨hg.r, hg.b, hg.y, ?_⟩
  simpa using hy
theorem RunG.row {s : RS} {h : HG} (hg : RunG s h) {k n : Nat} {l : List Int} {y : OS} {v : Int} (hl : s.bufs[k]? = some l) (hy : h.ys[k]? = some y) : RunG ⟨s.r, s.bufs.set k (l.set n v), s.l⟩ { h with ys := h.ys.set k (osSet y (n * 1 + 0) (.int .u64 v)) } := by
  have h1 := hg.b.2 k l y hl hy
  have h2 := h1.set (k := n * 1 + 0) (v := .int .u64 v)
  refine ⟨hg.r, rowsG_set hg.b ?_, ?_, hg.l⟩
  · rw [List.length_set, List.map_set]; rwa [Nat.mul_one, Nat.add_zero] at h2 ⊢
  · show osG 1 (s.bufs.set k _).length _ _
    rw [rowsV_keep hl hy (by rw [List.length_set, osV_set]), List.length_set]; exact hg.y
theorem runC_row (regs : Int) (vb vo : Value) (s : RS) (h : HG) (b : List (List Int)) (ys : List OS) (hb : b.length = s.bufs.length) : runC regs vb vo ⟨s.r, b, s.l⟩ { h with ys := ys } = runC regs vb vo s h := by
  unfold runC; simp only [hb]
theorem mem_fields {regs : Int} {bs : List Bf} {o : Lop} (h : rfields regs bs o = true) (hk : (cm .eql o.k 14 || cm .eql o.k 15) = true) : 0 ≤ o.buf ∧ o.buf < bs.length ∧ o.e = -1 ∧ (o.k = 15 → o.d = -1) := by
  obtain ⟨h1, h2⟩ := rf_bad h
  unfold rfields at h
  rw [if_neg (ne_true_of_eq_false h1), if_neg (ne_true_of_eq_false h2)] at h
  obtain ⟨k, d, e, a, b, c, buf, imm⟩ := o
  simp only [Bool.or_eq_true] at hk
  simp only at *
  rcases hk with hk | hk
  · have hk : k = 14 := by simpa [cm] using hk
    subst hk
    simp [rbad, fieldM, cm, hasE, mem] at h2 h
    refine ⟨?_, ?_, ?_, fun e => absurd e (by decide)⟩
    · omega
    · omega
    · omega
  · have hk : k = 15 := by simpa [cm] using hk
    subst hk
    simp [rbad, fieldM, cm, hasE, mem] at h2 h
    refine ⟨?_, ?_, ?_, fun _ => ?_⟩
    · omega
    · omega
    · omega
    · omega
def doE (xb i ob1 : Nat) (z : Int × Int × Int) : Env := [(0, .pointer (some ⟨xb, 0, none⟩)), (1, .int .i64 (i : Int)), (5, .pointer (some ⟨ob1, 0, none⟩)), (9, .int .i64 z.2.2), (10, .int .u64 z.1), (11, .int .u64 z.2.1)]
def opB (ob1 : Nat) (o : Lop) : Nat × Obj := (ob1, ob [.int .i64 o.k, .int .i64 o.d, .int .i64 o.e, .int .i64 o.a, .int .i64 o.b, .int .i64 o.c, .int .i64 o.buf, .int .u64 o.imm] 39)
def doG (o : Lop) (i : Nat) (s : RS) (z : (Int × Int × Int) × RS × HG) : Prop := RunG z.2.1 z.2.2 ∧ z.2.1.r.length = s.r.length ∧ z.2.1.bufs.length = s.bufs.length ∧ z.2.1.l = s.l ∧ stepO o i s = some ⟨putR (putR z.2.1.r o.d z.1.1) o.e z.1.2.1, z.2.1.bufs, s.l ++ [⟨i, z.1.2.2⟩]⟩
theorem do_leaf {Q : Exit → Act → World → Prop} {st : St} {E : Env} {M : Hp} {xb i ob1 : Nat} {o : Lop} {regs : Int} {vb vo : Value} {s : RS} {x y pl : Int} (s2 : RS) (h2 : HG) (hM : M = opB ob1 o :: runHp xb regs vb vo s2 h2)
    (hE : ∀ k v, lk (doE xb i ob1 (x, y, pl)) k = some v → lk E k = some v) (hG : doG o i s ((x, y, pl), s2, h2)) :
    D (Exit.then (fun a w => ∃ z, doG o i s z ∧ Sat st (doE xb i ob1 z.1) (opB ob1 o :: runHp xb regs vb vo z.2.1 z.2.2) a w) Q) .normal st E M :=
  D.then_ fun a1 w1 hs => ⟨((x, y, pl), s2, h2), hG, hs.lessE hM hE⟩
theorem perm_two {α : Type} (A Z : List α) (p q : α) : (A ++ (p :: q :: Z)).Perm (q :: p :: (A ++ Z)) :=
  List.perm_middle.trans ((List.Perm.cons p List.perm_middle).trans (List.Perm.swap q p _))
theorem runHp_eq (xb : Nat) (regs : Int) (vb vo : Value) (s : RS) (h : HG) {cs : List Value} (hC : runC regs vb vo s h = cs) : runHp xb regs vb vo s h = (xb, ob cs 88) :: (osC 37 h.ry [] ++ (osC 47 h.y [] ++ (rowsHp h.ys ++ osC 55 h.ly []))) := by
  unfold runHp; rw [hC]
theorem ar_u64 (a b : Int) : 0 ≤ ar .add .u64 a b := by
  show 0 ≤ IntKind.u64.wrap (a + b)
  simp only [IntKind.wrap, IntKind.bits, IntKind.signed]
  simp
  omega
theorem wrap_63 {n : Int} (h : 0 ≤ n ∧ n < 9223372036854775808) : IntKind.i64.wrap n = n := by
  simp only [IntKind.wrap, IntKind.bits, IntKind.signed]
  simp
  split <;> omega
theorem cm_yes' {a b : Int} (h : cm .eql a b = true) : a = b := by simpa [cm] using h
theorem shift_imm {regs : Int} {bs : List Bf} {o : Lop} (h : rfields regs bs o = true) (hk : (cm .eql o.k 8 || cm .eql o.k 9) = true) : 1 ≤ o.imm ∧ o.imm ≤ 63 := by
  obtain ⟨h1, h2⟩ := rf_bad h
  unfold rfields at h
  rw [if_neg (ne_true_of_eq_false h1), if_neg (ne_true_of_eq_false h2)] at h
  obtain ⟨k, d, e, a, b, c, buf, imm⟩ := o
  simp only [Bool.or_eq_true] at hk
  simp only at *
  rcases hk with hk | hk
  · have hk : k = 8 := by simpa [cm] using hk
    subst hk
    simp [mem, cm] at h; omega
  · have hk : k = 9 := by simpa [cm] using hk
    subst hk
    simp [mem, cm] at h; omega
end Go.Proofs.Ytkjlgapkcdcmgaa
