/- The separation logic's rules for slices of one's own, nil or not: told alike. No program in sight. -/
import Derived.Test.YtbackpcohkblfaaSepV
import Derived.Lib.AppendStr
import Derived.Lib.AppendZeros
import Derived.Laws.OwnMore
set_option linter.unusedVariables false
set_option linter.unusedSimpArgs false
namespace Go.Proofs.Ytbackpcohkblfaa.SL
open Go Go.RowKit

/-- A slice of one's own: nil, or its block, what lies in it, its room. -/
abbrev OS := Option (Nat × List Value × Nat)
/-- .. its value, of m elements; -/
def osV (m : Nat) : OS → Value
  | none => .slice none 0 0
  | some (b, _, cap) => .slice (some ⟨b, 0, none⟩) m cap
/-- .. its block, ahead of others; -/
def osC (T : Nat) : OS → Hp → Hp
  | none, r => r
  | some (b, l, _), r => (b, ob l T) :: r
/-- .. what it holds: m elements of n cells. -/
def osG (n m : Nat) (cs : List Value) : OS → Prop
  | none => m = 0 ∧ cs = []
  | some (_, l, cap) => l.length = cap * n ∧ m ≤ cap ∧ cap ≤ maxLen ∧ l.take (m * n) = cs
theorem osV_cells (m : Nat) (y : OS) : (osV m y).cells = [osV m y].toArray := by rcases y with _ | ⟨b, l, cap⟩ <;> rfl
theorem osV_one (m : Nat) (y : OS) : [osV m y].all oneB = true := by rcases y with _ | ⟨b, l, cap⟩ <;> rfl
theorem SlV.cells {v : Value} {n : Nat} (h : SlV v n) : v.cells = [v].toArray := by obtain ⟨p, cap, rfl, _⟩ := h; rfl
theorem SlV.one {v : Value} {n : Nat} (h : SlV v n) : [v].all oneB = true := by obtain ⟨p, cap, rfl, _⟩ := h; rfl
theorem osG.len {n m : Nat} {cs : List Value} {y : OS} (h : osG n m cs y) : cs.length = m * n := by
  rcases y with _ | ⟨b, l, cap⟩
  · obtain ⟨rfl, rfl⟩ := h; simp
  · obtain ⟨h1, h2, h3, rfl⟩ := h
    rw [List.length_take, h1]; exact Nat.min_eq_left (Nat.mul_le_mul_right _ h2)
theorem osG.sl {n m : Nat} {cs : List Value} {y : OS} (h : osG n m cs y) : SlV (osV m y) m := by
  rcases y with _ | ⟨b, l, cap⟩
  · obtain ⟨rfl, rfl⟩ := h; exact SlV.nil
  · exact SlV.mk _ _ h.2.1
theorem osG.le {n m : Nat} {cs : List Value} {y : OS} (h : osG n m cs y) : m ≤ maxLen := by
  rcases y with _ | ⟨b, l, cap⟩
  · rw [h.1]; exact Nat.zero_le _
  · exact Nat.le_trans h.2.1 h.2.2.1
theorem osG.nil {n : Nat} : osG n 0 [] none := ⟨rfl, rfl⟩
theorem osC_app (T : Nat) (y : OS) (r : Hp) : osC T y r = osC T y [] ++ r := by rcases y with _ | ⟨b, l, cap⟩ <;> rfl
theorem cells_app (y : OS) (T : Nat) : cellsHp (osC T y []) = true := by rcases y with _ | ⟨b, l, cap⟩ <;> rfl
section
variable {P : Program} {ops : Array Oper} {Q : Exit → Act → World → Prop} {s : St} {E : Env} {M : Hp} {rest : List Oper} {d t : Nat} {pos : String} {af : Array Edge}

theorem At.perm {w0 w : World} {A : List Nat} {M M' : Hp} (h : At w0 A M w) (hp : M'.Perm M) : At w0 A M' w :=
  ⟨h.keeps, (hp.map _).nodup_iff.2 h.nodup, fun x hx => h.mine x (hp.mem_iff.1 hx), fun x hx => h.holds x (hp.mem_iff.1 hx)⟩
theorem mid_perm (L1 A L2 : Hp) : (A ++ (L1 ++ L2)).Perm (L1 ++ (A ++ L2)) := by
  rw [← List.append_assoc, ← List.append_assoc]
  exact (List.perm_append_comm).append_right _
/-- The cells of an own slice, in the world. -/
theorem osG.rd {n m T : Nat} {cs : List Value} {y : OS} {L1 L2 : Hp} {w0 w : World} {A : List Nat} (h : osG n m cs y) (hw : At w0 A (L1 ++ osC T y L2) w) : Rd w [] (osV m y) m cs := by
  rcases y with _ | ⟨b, l, cap⟩
  · obtain ⟨rfl, rfl⟩ := h; exact Rd.nil
  · obtain ⟨h1, h2, h3, h4⟩ := h
    exact Rd.own (hw.holds (b, ob l T) (List.mem_append_right _ List.mem_cons_self)) (by simp) h2 _ h4
/-- An own slice is left behind, to be read. -/
theorem osG.left {n m T : Nat} {cs : List Value} {y : OS} {M' : Hp} {w0 w : World} {A : List Nat} (h : osG n m cs y) (hw : At w0 A (osC T y [] ++ M') w) : Rd w (keys M') (osV m y) m cs := by
  rcases y with _ | ⟨b, l, cap⟩
  · obtain ⟨rfl, rfl⟩ := h; exact Rd.nil
  · obtain ⟨h1, h2, h3, h4⟩ := h
    exact hw.left (b := b) (l := l) (T := T) List.mem_cons_self h2 _ h4
/-- .. wherever it stands. -/
theorem L.leave (L1 : Hp) {n m T : Nat} {cs : List Value} {y : OS} {L2 : Hp} (hG : osG n m cs y) (hM : M = L1 ++ osC T y L2)
    (k : ∀ w1, At s.w0 s.A (osC T y [] ++ (L1 ++ L2)) w1 → Rd w1 (keys (L1 ++ L2)) (osV m y) m cs → L P ops Q rest { s with w0 := w1, A := keys (L1 ++ L2) } E (L1 ++ L2)) : L P ops Q rest s E M := by
  intro a w hs
  have hw : At s.w0 s.A (osC T y [] ++ (L1 ++ L2)) w := by
    refine hs.at_.perm ?_
    rw [hM, osC_app T y L2]
    exact mid_perm L1 _ L2
  refine L.base (P := P) (ops := ops) (Q := Q) (s := s) (E := E) (rest := rest) (osC T y []) rfl (fun w1 h1 => k w1 h1 (hG.left h1)) a w ⟨hw, hs.defers, hs.size, hs.env⟩
theorem append_none {T dd e n bs : Nat} {m : Nat} {y : OS} {w : World} {cs : List Value} {c : Nat} [hT : Und P T (.slice e)] [hR : Row P e n bs] (hG : osG n m cs y) :
    (Builtin.append_ #[T, T] dd #[osV m y, .slice none 0 c]).run P w = .ok (osV m y) w := by
  obtain ⟨ti, z, r1, r2, r3, r4, r5, r6⟩ := hR.out
  rcases y with _ | ⟨b, l, cap⟩
  · simp [osV, Builtin.append_, run_underlying hT.out, sizeOf, typeInfo, r1, Builtin.lenOf, Builtin.firstCells]
  · obtain ⟨h1, h2, h3, h4⟩ := hG
    simp [osV, Builtin.append_, run_underlying hT.out, sizeOf, typeInfo, r1, Builtin.lenOf, Builtin.firstCells, h2, storeCells]
theorem own_row {n m e : Nat} {cs : List Value} {y : OS} {L1 L2 : Hp} {w0 w : World} {A : List Nat} (h : osG n m cs y) (hw : At w0 A (L1 ++ osC e y L2) w) : w.ownsRow 0 e n (osV m y) m cs := by
  rcases y with _ | ⟨b, l, cap⟩
  · obtain ⟨rfl, rfl⟩ := h; exact World.ownsRow_nil w 0 e n
  · have hl := h.len
    obtain ⟨h1, h2, h3, h4⟩ := h
    exact ⟨hl, .inr ⟨b, cap, l.toArray, rfl, Nat.zero_le _, hw.holds (b, ob l e) (List.mem_append_right _ List.mem_cons_self), h2, h3, by simpa using h1, h4⟩⟩
theorem hat_app : ∀ (L1 : Hp) (x : Nat × Obj) (L2 : Hp), hat (L1 ++ x :: L2) L1.length = some x
  | [], _, _ => rfl
  | _ :: r, x, L2 => hat_app r x L2
theorem hrep_app : ∀ (L1 : Hp) (x y : Nat × Obj) (L2 : Hp), hrep (L1 ++ x :: L2) L1.length y = L1 ++ y :: L2
  | [], _, _, _ => rfl
  | z :: r, x, y, L2 => by simp only [List.cons_append, List.length_cons, hrep]; rw [hrep_app r x y L2]
theorem hset_app : ∀ (L1 : Hp) (b : Nat) (o o' : Obj) (L2 : Hp), hset (L1 ++ (b, o) :: L2) L1.length o' = L1 ++ (b, o') :: L2
  | [], _, _, _, _ => rfl
  | z :: r, b, o, o', L2 => by simp only [List.cons_append, List.length_cons, hset]; rw [hset_app r b o o' L2]
/-- What an append leaves. -/
theorem At.grow {e n m m' : Nat} {cs cs' : List Value} {y : OS} {L1 L2 : Hp} {w0 w w' : World} {A : List Nat} {v' : Value} (hG : osG n m cs y) (hw : At w0 A (L1 ++ osC e y L2) w) (ho : w'.ownsRow 0 e n v' m' cs') (hg : w.grownBy w' (osV m y).ownBlock)
    (hat' : v'.ownBlock = (osV m y).ownBlock ∨ v'.ownBlock = some w.heap.size) (hnil : v' = .slice none 0 0 → y = none) : ∃ y', v' = osV m' y' ∧ osG n m' cs' y' ∧ At w0 A (L1 ++ osC e y' L2) w' := by
  obtain ⟨hl, ho⟩ := ho
  rcases ho with ⟨rfl, rfl⟩ | ⟨g, cap', cur, rfl, _, hgc, hle, hmx, hsz, htk⟩
  · obtain rfl := hnil rfl
    refine ⟨none, rfl, ⟨rfl, List.eq_nil_of_length_eq_zero (by simpa using hl)⟩, hw.other hg (fun k e => by cases e)⟩
  · refine ⟨some (g, cur.toList, cap'), rfl, ⟨by simpa using hsz, hle, hmx, htk⟩, ?_⟩
    rcases y with _ | ⟨b, l, cap⟩
    · have hg' : g = w.heap.size := by simpa [Value.ownBlock, osV] using hat'
      have := hw.fresh hg (b := g) (o := ob cur.toList e) (by simpa using hgc) (by omega)
      refine this.perm ?_
      show (L1 ++ (g, ob cur.toList e) :: L2).Perm ((g, ob cur.toList e) :: (L1 ++ L2))
      exact List.perm_middle
    · have hg' : g = b ∨ g = w.heap.size := by simpa [Value.ownBlock, osV] using hat'
      have := At.rep (o' := ob cur.toList e) hw (hat_app L1 (b, ob l e) L2) hg (by simpa using hgc) hg'
      rw [show L1 ++ osC e (some (b, l, cap)) L2 = L1 ++ (b, ob l e) :: L2 from rfl, hrep_app] at this
      exact this
/-- append onto a slice of one's own, nil or not; what is appended reads somewhere. -/
theorem L.appendU (L1 : Hp) {T e n bs m k : Nat} {cs news : List Value} {y : OS} {L2 : Hp} {u : Value} {x z : Operand} [hT : Und P T (.slice e)] [hR : Row P e n bs] (hG : osG n m cs y) (hM : M = L1 ++ osC e y L2)
    (hu : ∀ w, At s.w0 s.A M w → Rd w [] u k news) (hnl : news.length = k * n) (h1 : ones news) (h63 : m + k ≤ maxLen) (hb : (m + k) * bs ≤ 140737488355328)
    (hd : Nat.blt d s.n = true := by exact rfl) (hx : ev E x = some (osV m y) := by exact rfl) (hz : ev E z = some u := by exact rfl)
    (c : ∀ y', osG n (m + k) (cs ++ news) y' → (y' = none ↔ y = none ∧ k = 0 ∧ m = 0) → L P ops Q rest s ((d, osV (m + k) y') :: E) (L1 ++ osC e y' L2)) :
    L P ops Q (⟨some d, .call { callee := .builtin .append, args := #[x, z], argTypes := #[T, T] }, t, pos, af, none⟩ :: rest) s E M := by
  intro a w hs
  obtain ⟨⟨p, cap, rfl, hkc, hp⟩, hold⟩ := hu w hs.at_
  obtain ⟨ti, zz, r1, r2, r3, r4, r5, r6⟩ := hR.out
  have hat0 := hs.at_
  rw [hM] at hat0
  refine wpListIn_plain rfl fun K hK => ⟨fun _ _ => trivial, ?_⟩
  rw [Oper.semAt_eq _ _ _ (by intro c h; cases h)]
  rcases p with _ | ad
  · have hk0 : k = 0 := by
      rcases Nat.eq_zero_or_pos k with h | h
      · exact h
      · exact absurd (hp h) (by simp)
    subst hk0
    have hn0 : news = [] := List.eq_nil_of_length_eq_zero (by simpa using hnl)
    subst hn0
    rw [append_run hs hx hz (append_none hG)]
    have := c y (by simpa using hG) ⟨fun h => ⟨h, rfl, by subst h; exact hG.1⟩, fun h => h.1⟩
    exact hK _ _ (this _ _ (hs.put hd _ hat0))
  · have hnews : ∀ j u, news[j]? = some u → w.cell? (ad.add j) = some u := by
      intro j u hj
      rcases Nat.eq_zero_or_pos k with h | h
      · subst h
        have hn0 : news = [] := List.eq_nil_of_length_eq_zero (by simpa using hnl)
        subst hn0; simp at hj
      · have h2 := hold h
        have h3 := hp h
        simp only [Option.some.injEq] at h3
        rw [h3, add_at]
        exact h2.2.2 j u hj
    obtain ⟨v', w', hr, ho, hg, hnil, hat'⟩ := run_append_own_at (P := P) w 0 T t e ti zz n bs hT.out r1 r2 r3 r4 r5 r6 _ m _ (own_row hG hat0) ad k cap news hnl hnews h1 h63 hb (Nat.zero_le _)
    rw [append_run hs hx hz hr]
    have hyn : osV m y = .slice none 0 0 → y = none := fun h => by
      rcases y with _ | ⟨b, l, cap⟩
      · rfl
      · simp [osV] at h
    obtain ⟨y', rfl, hG', hw'⟩ := At.grow hG hat0 ho hg hat' (fun e => hyn (hnil.1 e).1)
    refine hK _ _ (c y' hG' ⟨fun h => ?_, fun h => ?_⟩ _ _ (hs.put hd _ hw'))
    · subst h
      have hm0 := hG'.1
      rw [hm0] at hnil
      have := hnil.1 rfl
      exact ⟨hyn this.1, this.2, by omega⟩
    · obtain ⟨rfl, h0, h1⟩ := h
      have := hnil.2 ⟨rfl, h0⟩
      rcases y' with _ | ⟨b', l', cap'⟩
      · rfl
      · simp [osV] at this
/-- The empty literal. -/
theorem L.build0 {T e n : Nat} [hT : Und P T (.slice e)] [hS : Siz P e n] (hd : Nat.blt d s.n = true := by exact rfl)
    (c : ∀ y, osG n 0 [] y → L P ops Q rest s ((d, osV 0 y) :: E) (osC e y M)) : L P ops Q (⟨some d, .buildSlice T 0 #[], t, pos, af, none⟩ :: rest) s E M := by
  refine L.newB (f := fun b => .slice (some ⟨b, 0, none⟩) 0 0) (o := ob [] e) hd ?_ (fun b => c (some (b, [], 0)) ⟨by simp, Nat.le_refl _, Nat.zero_le _, by simp⟩)
  intro a w hs
  show Sem.run P (do pure (Next.value (← Instr.buildSlice T 0 ((#[] : Array (Nat × Operand)).map fun (i, x) => (i, a.eval x))))) w = _
  refine run_value ?_
  unfold Instr.buildSlice
  rw [run_bind_ok und_run]
  show Sem.run P (sizeOf e >>= _) w = _
  rw [run_bind_ok (siz_run hS.out)]
  rw [if_neg (by omega)]
  rw [if_pos (by omega)]
  simp [Instr.fill, newRow, show Array.range 0 = #[] from by decide]
/-- An element of an own slice. -/
theorem L.loadU (L1 : Hp) {x : Operand} {T e n m i j b o : Nat} {cs : List Value} {y : OS} {L2 : Hp} {v : Value} [hT : Sgl P T] (hG : osG n m cs y) (hM : M = L1 ++ osC e y L2) (hi : i < m) (hj : j < n) (hv : cs[i * n + j]? = some v)
    (hd : Nat.blt d s.n = true := by exact rfl) (hx : ev E x = some (.pointer (some ⟨b, o, none⟩)) := by exact rfl) (hb : b = sB (osV m y) := by exact rfl) (ho : o = sO (osV m y) + i * n + j := by exact rfl)
    (c : L P ops Q rest s ((d, v) :: E) M) : L P ops Q (⟨some d, .load T x, t, pos, af, none⟩ :: rest) s E M := by
  obtain ⟨ds, hu, hg⟩ := hT.out
  have hu : Und P T ds := ⟨hu⟩
  subst hb
  refine L.val (P := P) (ops := ops) (Q := Q) (s := s) (E := E) (M := M) (rest := rest) hd (fun a w hs => ⟨w, ?_, hs.at_⟩) c
  · have hr : Rd w [] (osV m y) m cs := by have := hs.at_; rw [hM] at this; exact hG.rd this
    have hold := hr.2 (by omega)
    refine run_value (s := Instr.loadAt T (a.eval x)) ?_
    rw [hs.ev hx]
    unfold Instr.loadAt Instr.sureAddr loadVar
    show Sem.run P (do if ← isAgg T then pure (.agg (← loadCells ⟨sB (osV m y), o, none⟩ (← sizeOf T))) else load ⟨sB (osV m y), o, none⟩) w = _
    rw [run_bind_ok agg_run, hg, ho, Nat.add_assoc]
    exact load_cell (hold.2.2 _ _ hv)
theorem L.loadUA (L1 : Hp) {x : Operand} {T e n m i b o : Nat} {cs vs : List Value} {y : OS} {L2 : Hp} [hT : Agl P T] [hz : Siz P T n] (hG : osG n m cs y) (hM : M = L1 ++ osC e y L2) (hi : i < m) (hv : (cs.drop (i * n)).take n = vs)
    (hd : Nat.blt d s.n = true := by exact rfl) (hx : ev E x = some (.pointer (some ⟨b, o, none⟩)) := by exact rfl) (hb : b = sB (osV m y) := by exact rfl) (ho : o = sO (osV m y) + i * n := by exact rfl)
    (c : L P ops Q rest s ((d, .agg vs.toArray) :: E) M) : L P ops Q (⟨some d, .load T x, t, pos, af, none⟩ :: rest) s E M := by
  obtain ⟨ds, hu, hg⟩ := hT.out
  have hu : Und P T ds := ⟨hu⟩
  subst hb
  have hlen : i * n + n ≤ cs.length := by
    rw [hG.len]
    have := Nat.mul_le_mul_right n (show i + 1 ≤ m by omega)
    rw [Nat.add_mul] at this; omega
  refine L.val (P := P) (ops := ops) (Q := Q) (s := s) (E := E) (M := M) (rest := rest) hd (fun a w hs => ⟨w, ?_, hs.at_⟩) c
  · have hr : Rd w [] (osV m y) m cs := by have := hs.at_; rw [hM] at this; exact hG.rd this
    have hold := hr.2 (by omega)
    refine run_value (s := Instr.loadAt T (a.eval x)) ?_
    rw [hs.ev hx]
    unfold Instr.loadAt Instr.sureAddr loadVar
    show Sem.run P (do if ← isAgg T then pure (.agg (← loadCells ⟨sB (osV m y), o, none⟩ (← sizeOf T))) else load ⟨sB (osV m y), o, none⟩) w = _
    rw [run_bind_ok agg_run, hg]
    show Sem.run P (do pure (Value.agg (← loadCells ⟨sB (osV m y), o, none⟩ (← sizeOf T)))) w = _
    rw [run_bind_ok (siz_run hz.out)]
    show Sem.run P (do pure (Value.agg (← loadCellsFrom ⟨sB (osV m y), o, none⟩ 0 n #[]))) w = _
    have := loadCells_cells (P := P) (w := w) (b := sB (osV m y)) (o := o) (l := cs.drop (i * n)) n 0 #[] (by rw [List.length_drop]; omega) (fun j v hj => by
      rw [List.getElem?_drop] at hj
      rw [ho, Nat.add_assoc]
      exact hold.2.2 _ _ hj)
    rw [run_bind_ok this, ← hv]; simp
end
end Go.Proofs.Ytbackpcohkblfaa.SL
