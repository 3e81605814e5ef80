/- The separation logic's rules: a scope in which the run jumps back to one label. No program in sight. -/
import Derived.Test.YtkjlgapkcdcmgaaSepH
import Derived.ScopeJumps
import Derived.Laws.CopyRow
set_option linter.unusedVariables false
set_option linter.unusedSimpArgs false
namespace Go
section
variable {F : Fence} {n : Nat} {P : Program} {Q : Exit → Act → World → Prop} {a : Act} {w : World} {b : Frame} {k : List Item} {cs : List Frame}
theorem stepR_scope {c : Code} : step P (lone (b.atR a (.code (.scope c) :: k)) cs w) = .next (lone (b.atR a (.code c :: .inScope c :: k)) cs w) :=
  step_lone_go (by simp [stepG, stepG.exec, Frame.atR])
theorem stepR_inScope {c : Code} : step P (lone (b.atR a (.inScope c :: k)) cs w) = .next (lone (b.atR a k) cs w) :=
  step_lone_go (by simp [stepG, stepG.exec, Frame.atR])
theorem wpIn_scope_jumps {c rest : Code} (l : Nat) (J : Act → World → Prop) (μ : Act → World → Nat) (hf : findLabel c l = some rest)
    (first : c.wpIn F n P (Exit.jump l J Q) a w)
    (pass : ∀ a w, J a w → rest.wpIn F n P (Exit.jump l (fun a' w' => J a' w' ∧ μ a' w' < μ a w) Q) a w) : (Code.scope c).wpIn F n P Q a w := by
  intro b k cs hro hb hr
  have hg : gotoIn l (.inScope c :: k) = some (.code rest :: .inScope c :: k) := by simp [gotoIn, hf]
  have key : ∀ j a w, μ a w = j → J a w → ∃ e a' w', Q e a' w' ∧ ArrivesIn (Machine.fenced P F) P (lone (b.atR a (.code rest :: .inScope c :: k)) cs w) b k cs e a' w' := by
    intro j
    induction j using Nat.strongRecOn with
    | _ j ih =>
      intro a w hn hJ
      obtain ⟨e, a₁, w₁, hq, harr⟩ := pass a w hJ b (.inScope c :: k) cs hro hb hr
      cases e with
      | normal => exact ⟨.normal, a₁, w₁, hq, StepsIn.trans harr (.one (fenced_calm hb hr rfl) stepR_inScope)⟩
      | exit id => exact ⟨.exit id, a₁, w₁, hq, fun k' hk => harr.1 k' (by simp [exitTo, hk]), fun hr' hk => harr.2 hr' (by simp [exitTo, hk])⟩
      | goto l' =>
        obtain ⟨rfl, hJ', hlt⟩ := hq
        obtain ⟨e₂, a₂, w₂, hq₂, harr₂⟩ := ih _ (by omega) a₁ w₁ rfl hJ'
        exact ⟨e₂, a₂, w₂, hq₂, .of_steps (harr.1 _ hg) harr₂⟩
      | ret => exact ⟨_, a₁, w₁, hq, harr⟩
      | panic ch => exact ⟨_, a₁, w₁, hq, harr⟩
      | outgrown => exact ⟨_, a₁, w₁, hq, harr⟩
  have h0 : (lone (b.atR a (.code (.scope c) :: k)) cs w).fenced P F := fenced_calm hb hr rfl
  obtain ⟨e, a₁, w₁, hq, harr⟩ := first b (.inScope c :: k) cs hro hb hr
  cases e with
  | normal => exact ⟨.normal, a₁, w₁, hq, .head h0 stepR_scope (StepsIn.trans harr (.one (fenced_calm hb hr rfl) stepR_inScope))⟩
  | exit id => exact ⟨.exit id, a₁, w₁, hq, fun k' hk => .head h0 stepR_scope (harr.1 k' (by simp [exitTo, hk])), fun hr' hk => let ⟨k₁, h1, h2⟩ := harr.2 hr' (by simp [exitTo, hk]); ⟨k₁, h1, .head h0 stepR_scope h2⟩⟩
  | goto l' =>
    obtain ⟨rfl, hJ'⟩ := hq
    obtain ⟨e₂, a₂, w₂, hq₂, harr₂⟩ := key _ a₁ w₁ rfl hJ'
    exact ⟨e₂, a₂, w₂, hq₂, .of_steps (.head h0 stepR_scope (harr.1 _ hg)) harr₂⟩
  | ret => exact ⟨_, a₁, w₁, hq, .of_steps (.one h0 stepR_scope) harr⟩
  | panic ch => exact ⟨_, a₁, w₁, hq, .of_steps (.one h0 stepR_scope) harr⟩
  | outgrown => exact ⟨_, a₁, w₁, hq, .of_steps (.one h0 stepR_scope) harr⟩
end
end Go
namespace Go.Proofs.Ytkjlgapkcdcmgaa.SL
open Go Go.RowKit
section
variable {P : Program} {Q : Exit → Act → World → Prop} {s : St} {E : Env} {M : Hp} {x y c : Code}
/-- A scope: what holds at each jump back, told of ghosts; each pass lowers the measure. -/
theorem C.scope {α : Type} {rest : Code} (l : Nat) (G : α → Prop) (EI : α → Env) (MI : α → Hp) (μ : α → Nat) (hf : findLabel c l = some rest := by exact rfl)
    (first : C P c (Exit.jump l (fun a w => ∃ y, G y ∧ Sat s (EI y) (MI y) a w) Q) s E M)
    (pass : ∀ x, G x → C P rest (Exit.jump l (fun a w => ∃ y, G y ∧ μ y < μ x ∧ Sat s (EI y) (MI y) a w) Q) s (EI x) (MI x)) : C P (.scope c) Q s E M := by
  intro a w hs
  have hl : ∀ a w, (∃ x, G x ∧ Sat s (EI x) (MI x) a w) → ∃ n, (∃ x, G x ∧ Sat s (EI x) (MI x) a w ∧ μ x = n) ∧ ∀ m, (∃ x, G x ∧ Sat s (EI x) (MI x) a w ∧ μ x = m) → n ≤ m :=
    fun a w ⟨x, h1, h2⟩ => least ⟨μ x, x, h1, h2, rfl⟩
  open Classical in
  refine wpIn_scope_jumps l (fun a w => ∃ x, G x ∧ Sat s (EI x) (MI x) a w) (fun a w => if h : ∃ x, G x ∧ Sat s (EI x) (MI x) a w then Classical.choose (hl a w h) else 0) hf (first a w hs) ?_
  intro a w hI
  obtain ⟨⟨x, h1, h2, h3⟩, _⟩ := Classical.choose_spec (hl a w hI)
  refine wpIn_mono (pass x h1 a w h2) ?_
  intro e a' w' hq
  cases e with
  | goto l' =>
    obtain ⟨rfl, y, hy, hlt, hsy⟩ := hq
    refine ⟨rfl, ⟨y, hy, hsy⟩, ?_⟩
    rw [dif_pos (⟨y, hy, hsy⟩ : ∃ x, G x ∧ Sat s (EI x) (MI x) a' w'), dif_pos hI]
    have := (Classical.choose_spec (hl a' w' ⟨y, hy, hsy⟩)).2 (μ y) ⟨y, hy, hsy, rfl⟩
    omega
  | exit id => exact hq
  | normal => exact hq
  | ret => exact hq
  | panic ch => exact hq
  | outgrown => exact hq
theorem C.label {l : Nat} (h : D Q .normal s E M) : C P (.label l) Q s E M := fun a w hs => wpIn_label (h a w hs)
theorem C.goto {l : Nat} (h : D Q (.goto l) s E M) : C P (.goto l) Q s E M := fun a w hs => wpIn_goto (h a w hs)
theorem D.thenGoto {K : Act → World → Prop} {l : Nat} (h : D Q (.goto l) s E M) : D (Exit.then K Q) (.goto l) s E M := fun a w hs => h a w hs
theorem D.blkGoto {i l : Nat} (h : D Q (.goto l) s E M) : D (Exit.inBlock i Q) (.goto l) s E M := fun a w hs => h a w hs
theorem D.jumpRet {l : Nat} {J : Act → World → Prop} (h : D Q .ret s E M) : D (Exit.jump l J Q) .ret s E M := fun a w hs => h a w hs
theorem D.jumpNormal {l : Nat} {J : Act → World → Prop} (h : D Q .normal s E M) : D (Exit.jump l J Q) .normal s E M := fun a w hs => h a w hs
theorem D.jump {l : Nat} {J : Act → World → Prop} (h : ∀ a w, Sat s E M a w → J a w) : D (Exit.jump l J Q) (.goto l) s E M := fun a w hs => ⟨rfl, h a w hs⟩
end
section
variable {P : Program} {ops : Array Oper} {Q : Exit → Act → World → Prop} {s : St} {E : Env} {M : Hp} {rest : List Oper} {d t : Nat} {pos : String} {af : Array Edge}
/-- An element of an own slice is read; the slice's value is told by a name. -/
theorem L.loadW (L1 : Hp) {x : Operand} {T e n m i j b o : Nat} {cs : List Value} {y : OS} {L2 : Hp} {u v : Value} [hT : Sgl P T] (hG : osG n m cs y) (hM : M = L1 ++ osC e y L2) (hu : osV m y = u) (hi : i < m) (hj : j < n) (hv : cs[i * n + j]? = some v)
    (hd : Nat.blt d s.n = true := by exact rfl) (hx : ev E x = some (.pointer (some ⟨b, o, none⟩)) := by exact rfl) (hb : b = sB u := by exact rfl) (ho : o = sO u + i * n + j := by exact rfl)
    (c : L P ops Q rest s ((d, v) :: E) M) : L P ops Q (⟨some d, .load T x, t, pos, af, none⟩ :: rest) s E M := by
  subst hu
  exact L.loadU L1 hG hM hi hj hv hd hx hb ho c
theorem copy_exec {T dd : Nat} {x y : Operand} {a : Act} {w w' : World} {v u r : Value} (hs : Sat s E M a w) (hx : ev E x = some v) (hy : ev E y = some u) (h : (Builtin.copy_ #[T, T] t #[v, u]).run P w = .ok r w') :
    (execOp a.eval ⟨some dd, .call { callee := .builtin .copy, args := #[x, y], argTypes := #[T, T] }, t, pos, af, none⟩).run P w = .ok (.value r) w' := by
  show Sem.run P (do let d ← resolve a.eval { callee := .builtin .copy, args := #[x, y], argTypes := #[T, T] } t; invoke d.target d.args) w = _
  unfold resolve
  simp only [List.map_toArray, List.map_cons, List.map_nil, hs.ev hx, hs.ev hy]
  exact run_value (s := Builtin.copy_ #[T, T] t #[v, u]) h
/-- copy onto a block of one's own; its elements are of one cell; the source is no longer than it. -/
theorem L.copyK (i : Nat) {T T' e b len cap k : Nat} {l news : List Value} {u : Value} {x z : Operand} [hT : Und P T (.slice e)] [hS : Siz P e 1] (hi : hat M i = some (b, ob l T'))
    (hu : ∀ w, At s.w0 s.A M w → Rd w [] u k news) (hnl : news.length = k) (h1 : news.all oneB = true) (hk : k ≤ len) (hlen : len ≤ l.length)
    (hd : Nat.blt d s.n = true := by exact rfl) (hx : ev E x = some (.slice (some ⟨b, 0, none⟩) len cap) := by exact rfl) (hz : ev E z = some u := by exact rfl) {M' : Hp} (hM : hset M i (ob (setL l 0 news) T') = M')
    (c : L P ops Q rest s ((d, .int .i64 k) :: E) M') : L P ops Q (⟨some d, .call { callee := .builtin .copy, args := #[x, z], argTypes := #[T, T] }, t, pos, af, none⟩ :: rest) s E M := by
  refine L.val hd (fun a w hs => ?_) c
  obtain ⟨⟨p, cp, rfl, hkc, hp⟩, hold⟩ := hu w hs.at_
  obtain ⟨w', hr, hw⟩ := storeCells_ob (P := P) (o := 0) news 0 hs.at_ hi (by omega) h1
  have hmin : Nat.min k len = k := Nat.min_eq_left hk
  rcases p with _ | ad
  · have hk0 : k = 0 := by
      rcases Nat.eq_zero_or_pos k with h | h
      · exact h
      · exact absurd (hp h) (by simp)
    subst hk0
    obtain rfl : news = [] := List.eq_nil_of_length_eq_zero hnl
    refine ⟨w, copy_exec hs hx hz ?_, ?_⟩
    · unfold Builtin.copy_
      rw [show (#[T, T] : Array Nat)[0]? = some T from rfl]
      simp only [List.getElem?_toArray, List.getElem?_cons_zero, List.getElem?_cons_succ]
      show Sem.run P (underlying T >>= _) w = _
      rw [run_bind_ok und_run]
      show Sem.run P (do let n := Nat.min (← Builtin.lenOf (.slice none 0 cp)) len; let cells ← Builtin.firstCells (← sizeOf e) n (.slice none 0 cp); storeCells ⟨b, 0, none⟩ cells.toList; pure (goInt n)) w = _
      simp only [Builtin.lenOf, Builtin.firstCells, pure_bind]
      rw [run_bind_ok (siz_run hS.out)]
      simp only [pure_bind, storeCells]
      simp [Nat.min, goInt]
    · rw [← hM]
      rw [show setL l 0 ([] : List Value) = l from rfl, hset_same hi]
      exact hs.at_
  · have hsrc : ∀ j v, news[j]? = some v → w.cell? (ad.add j) = some v := by
      intro j v hj
      rcases Nat.eq_zero_or_pos k with h | h
      · subst h
        have hn0 : news = [] := List.eq_nil_of_length_eq_zero hnl
        subst hn0; simp at hj
      · have h2 := hold h
        have h3 := hp h
        simp only [Option.some.injEq] at h3
        rw [h3, add_at]
        exact h2.2.2 j v hj
    have hload := run_loadCells_list (P := P) w ad news hsrc
    refine ⟨w', copy_exec hs hx hz ?_, by rw [← hM]; exact hw⟩
    unfold Builtin.copy_
    rw [show (#[T, T] : Array Nat)[0]? = some T from rfl]
    simp only [List.getElem?_toArray, List.getElem?_cons_zero, List.getElem?_cons_succ]
    show Sem.run P (underlying T >>= _) w = _
    rw [run_bind_ok und_run]
    show Sem.run P (do let n := Nat.min (← Builtin.lenOf (.slice (some ad) k cp)) len; let cells ← Builtin.firstCells (← sizeOf e) n (.slice (some ad) k cp); storeCells ⟨b, 0, none⟩ cells.toList; pure (goInt n)) w = _
    simp only [Builtin.lenOf, Builtin.firstCells, pure_bind]
    rw [run_bind_ok (siz_run hS.out)]
    rw [hmin, Nat.mul_one, ← hnl]
    rw [run_bind_ok hload]
    simp only [List.toList_toArray]
    rw [run_bind_ok hr]
    rfl
end
end Go.Proofs.Ytkjlgapkcdcmgaa.SL
namespace Go.Proofs.Ytkjlgapkcdcmgaa.SL
open Go Go.RowKit
section
variable {P : Program} {ops : Array Oper} {Q : Exit → Act → World → Prop} {s : St} {E : Env} {M : Hp} {rest : List Oper} {d t : Nat} {pos : String} {af : Array Edge}
/-- copy onto a part of a block of one's own; as many as there are, or as there is room for. -/
theorem L.copyV (i : Nat) {T T' e b o len k c : Nat} {l cs : List Value} {dv u : Value} {x z : Operand} [hT : Und P T (.slice e)] [hS : Siz P e 1] (hi : hat M i = some (b, ob l T')) (hdv : SlV dv len) (hb : 0 < len → sB dv = b ∧ sO dv = o)
    (hu : ∀ w, At s.w0 s.A M w → Rd w [] u k cs) (hnl : cs.length = k) (h1 : cs.all oneB = true) (hc : Nat.min k len = c) (hlen : o + len ≤ l.length)
    (hd : Nat.blt d s.n = true := by exact rfl) (hx : ev E x = some dv := by exact rfl) (hz : ev E z = some u := by exact rfl) {M' : Hp} (hM : hset M i (ob (setL l o (cs.take c)) T') = M')
    (k' : L P ops Q rest s ((d, .int .i64 c) :: E) M') : L P ops Q (⟨some d, .call { callee := .builtin .copy, args := #[x, z], argTypes := #[T, T] }, t, pos, af, none⟩ :: rest) s E M := by
  refine L.val hd (fun a w hs => ?_) k'
  obtain ⟨⟨p, cp, rfl, hkc, hp⟩, hold⟩ := hu w hs.at_
  obtain ⟨p2, cp2, rfl, hkc2, hp2⟩ := hdv
  have hck : c ≤ k := by rw [← hc]; exact Nat.min_le_left _ _
  have hcl : c ≤ len := by rw [← hc]; exact Nat.min_le_right _ _
  have hl : (cs.take c).length = c := by rw [List.length_take]; omega
  have h1' : (cs.take c).all oneB = true := List.all_eq_true.2 fun v hv => List.all_eq_true.1 h1 v (List.mem_of_mem_take hv)
  have first : (Builtin.firstCells 1 c (.slice p k cp)).run P w = .ok (cs.take c).toArray w := by
    rcases p with _ | ad
    · have hk0 : k = 0 := by
        rcases Nat.eq_zero_or_pos k with h | h
        · exact h
        · exact absurd (hp h) (by simp)
      have hc0 : c = 0 := by omega
      subst hc0
      rfl
    · have hsrc : ∀ j v, (cs.take c)[j]? = some v → w.cell? (ad.add j) = some v := by
        intro j v hj
        have hjc : j < c := by have := (List.getElem?_eq_some_iff.1 hj).1; omega
        rw [List.getElem?_take, if_pos hjc] at hj
        have h2 := hold (by omega)
        have h3 := hp (by omega)
        simp only [Option.some.injEq] at h3
        rw [h3, add_at]
        exact h2.2.2 j v hj
      have := run_loadCells_list (P := P) w ad (cs.take c) hsrc
      rw [hl] at this
      show (loadCells ad (c * 1)).run P w = _
      rw [Nat.mul_one]; exact this
  have pre : ∀ w', (match p2 with | some a => storeCells a (cs.take c) | none => pure ()).run P w = .ok () w' → (Builtin.copy_ #[T, T] t #[.slice p2 len cp2, .slice p k cp]).run P w = .ok (.int .i64 c) w' := by
    intro w' hw'
    unfold Builtin.copy_
    rw [show (#[T, T] : Array Nat)[0]? = some T from rfl]
    simp only [List.getElem?_toArray, List.getElem?_cons_zero, List.getElem?_cons_succ]
    show Sem.run P (underlying T >>= _) w = _
    rw [run_bind_ok und_run]
    rcases p2 with _ | ad
    · show Sem.run P (do let q ← Builtin.lenOf (.slice p k cp); let z ← sizeOf e; let cells ← Builtin.firstCells z (Nat.min q len) (.slice p k cp); pure (goInt (Nat.min q len))) w = _
      simp only [Builtin.lenOf, pure_bind]
      rw [run_bind_ok (siz_run hS.out)]
      rw [hc, run_bind_ok first]
      have : w' = w := by have := hw'; simp only [Sem.run_pure] at this; cases this; rfl
      subst this
      rfl
    · show Sem.run P (do let q ← Builtin.lenOf (.slice p k cp); let z ← sizeOf e; let cells ← Builtin.firstCells z (Nat.min q len) (.slice p k cp); storeCells ad cells.toList; pure (goInt (Nat.min q len))) w = _
      simp only [Builtin.lenOf, pure_bind]
      rw [run_bind_ok (siz_run hS.out)]
      rw [hc, run_bind_ok first]
      simp only [List.toList_toArray]
      rw [run_bind_ok hw']
      rfl
  rcases Nat.eq_zero_or_pos len with h | h
  · have hc0 : c = 0 := by omega
    subst hc0
    refine ⟨w, copy_exec hs hx hz (pre w ?_), ?_⟩
    · rcases p2 with _ | ad
      · rfl
      · rfl
    · rw [← hM, List.take_zero, show setL l o ([] : List Value) = l from rfl, hset_same hi]
      exact hs.at_
  · have h3 := hp2 h
    obtain ⟨hb1, hb2⟩ := hb h
    have h4 : p2 = some ⟨b, o, none⟩ := h3.trans (by rw [hb1, hb2])
    clear h3 hb1 hb2 hb
    subst h4
    obtain ⟨w', hr, hw⟩ := storeCells_ob (P := P) (o := o) (cs.take c) 0 hs.at_ hi (by omega) h1'
    exact ⟨w', copy_exec hs hx hz (pre w' hr), by rw [← hM]; exact hw⟩
/-- A part of a slice whose block is known. -/
theorem L.sliceK {T e sz b o n cap lo hi : Nat} {x : Operand} {y z : Option Operand} [hT : Und P T (.slice e)] [hS : Siz P e sz] (hc : n ≤ cap) (h1 : lo ≤ hi) (h2 : hi ≤ n) (hlt : lo < cap)
    (hn : Nat.blt d s.n = true := by exact rfl) (hx : ev E x = some (.slice (some ⟨b, o, none⟩) n cap) := by exact rfl)
    (hy : (y = none ∧ lo = 0) ∨ ∃ o q, y = some o ∧ ev E o = some (.int q (lo : Int))) (hz : (z = none ∧ hi = n) ∨ ∃ o q, z = some o ∧ ev E o = some (.int q (hi : Int)))
    (c : L P ops Q rest s ((d, .slice (some ⟨b, o + lo * sz, none⟩) (hi - lo) (cap - lo)) :: E) M) : L P ops Q (⟨some d, .slice T x y z none, t, pos, af, none⟩ :: rest) s E M := by
  have hh := fun (a : Act) (w : World) (hs : Sat s E M a w) => bounds_run (P := P) (w := w) (sl := true) (n := n) (cap := cap) (opt_ev hs hy) (opt_ev hs hz) h1 (Nat.le_trans h2 hc)
  refine L.calm (S := fun ρ => Instr.sliceAt T (ρ x) (y.map ρ) (z.map ρ) none) (v := .slice (some ⟨b, o + lo * sz, none⟩) (hi - lo) (cap - lo)) hn (fun _ => rfl) (fun a w hs => ?_) c
  show (Instr.sliceAt T (a.eval x) (y.map a.eval) (z.map a.eval) none).run P w = _
  rw [hs.ev hx]
  unfold Instr.sliceAt
  rw [run_bind_ok und_run]
  simp only
  unfold Instr.slice
  rw [run_bind_ok und_run]
  simp only
  refine (run_bind_ok (hh a w hs)).trans ?_
  simp only
  rw [run_bind_ok (siz_run hS.out)]
  have e : (if cap = lo then (some ⟨b, o, none⟩ : Option Addr) else (some ⟨b, o, none⟩ : Option Addr).map (·.add (lo * sz))) = some ⟨b, o + lo * sz, none⟩ := by
    rw [if_neg (by omega)]; simp only [Option.map_some, add_at]
  rw [← e]
  rfl
end
end Go.Proofs.Ytkjlgapkcdcmgaa.SL
