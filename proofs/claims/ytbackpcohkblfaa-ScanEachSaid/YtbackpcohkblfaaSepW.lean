
/- The separation logic's rule for a drawn region that loads and stores cells of one's own: taken in the text's order, where cells that are stored are looked at by none but those that wait. No program in sight. -/
import Derived.Test.YtbackpcohkblfaaSep
set_option linter.unusedVariables false
set_option linter.unusedSimpArgs false
namespace Go.Proofs.Ytbackpcohkblfaa.SL
open Go Go.RowKit

/-- What an operation does with cells of one's own. -/
inductive Fp where
  | no
  | rd (k o n : Nat)
  | wr (k o n : Nat)
def Fp.clash : Fp → Fp → Bool
  | .wr k o n, .wr k' o' n' => Nat.beq k k' && (Nat.blt o (o' + n') && Nat.blt o' (o + n))
  | .wr k o n, .rd k' o' n' => Nat.beq k k' && (Nat.blt o (o' + n') && Nat.blt o' (o + n))
  | .rd k o n, .wr k' o' n' => Nat.beq k k' && (Nat.blt o (o' + n') && Nat.blt o' (o + n))
  | _, _ => false
/-- Two cells: has the operation to do with it, does it store there? -/
def Fp.has : Fp → Nat → Nat → Bool
  | .no, _, _ => false
  | .rd k o n, k', c => Nat.beq k k' && (Nat.ble o c && Nat.blt c (o + n))
  | .wr k o n, k', c => Nat.beq k k' && (Nat.ble o c && Nat.blt c (o + n))
def Fp.sto : Fp → Nat → Nat → Bool
  | .wr k o n, k', c => Nat.beq k k' && (Nat.ble o c && Nat.blt c (o + n))
  | _, _, _ => false
theorem Fp.has_of_sto {f : Fp} {k c : Nat} (h : f.sto k c = true) : f.has k c = true := by
  cases f <;> first | exact h | cases h
theorem Fp.clash_of {f g : Fp} {k c : Nat} (h1 : f.has k c = true) (h2 : g.has k c = true) (h3 : f.sto k c = true ∨ g.sto k c = true) : f.clash g = true := by
  cases f <;> cases g <;> simp only [Fp.has, Fp.sto, Fp.clash, Bool.and_eq_true, Nat.beq_eq, Nat.ble_eq, Nat.blt_eq, Bool.false_eq_true, or_self, or_false, false_or] at h1 h2 h3 ⊢ <;> first | omega | exact ⟨by omega, by omega, by omega⟩
def insL (S : List Nat) : List Nat → List Nat
  | [] => S
  | x :: xs => match S.contains x with
    | true => insL S xs
    | false => insL (x :: S) xs
def edgesOf (o : Oper) : List Nat := (o.after.toList.filter (Region.binds .any ·)).map (·.on)
def ancs (ops : Array Oper) : Nat → List Nat → List Nat
  | 0, S => S
  | n + 1, S => ancs ops n (insL S (S.flatMap fun j => match ops[j]? with
    | some o => edgesOf o
    | none => []))
def okW (ops : Array Oper) (fs : List Fp) : Bool := (List.range ops.size).all fun i => match ops[i]?, fs[i]? with
  | some o, some f => plainOp o.op && o.after.all (fun e => !Region.binds .any e || Nat.blt e.on i) &&
    (o.looksAt ops).all (fun x => (List.range ops.size).all fun j => match ops[j]? with
      | some p => p.dst != some x || (o.after.any fun e => Region.binds .any e && e.on == j)
      | none => true) &&
    (List.range ops.size).all (fun j => j == i || match ops[j]? with
      | some p => p.dst.isNone || p.dst != o.dst
      | none => true) &&
    (List.range i).all (fun j => match fs[j]? with
      | some g => !g.clash f || (ancs ops ops.size (edgesOf o)).contains j
      | none => true)
  | _, _ => false
structure Dat where
  v : Value
  f : Fp
  ws : List Value
def wrM (M : Hp) (k c : Nat) (ws : List Value) : Hp := match hat M k with
  | some (_, .cells a T (0, 0)) => hset M k (ob (setL a.toList c ws) T)
  | _ => M
def Dat.app (M : Hp) (d : Dat) : Hp := match d.f with
  | .wr k c _ => wrM M k c d.ws
  | _ => M
def Dat.env (o : Oper) (d : Dat) (E : Env) : Env := match o.dst with
  | some t => (t, d.v) :: E
  | none => E
abbrev own1 (s : St) (w1 : World) (B : Hp) : St := { w0 := w1, A := keys B, n := s.n, ro := s.ro, dl := s.dl }
/-- One operation has come to an end. -/
def EndsW (s : St) (M : Hp) : Exit → Act → World → Prop := fun e a w => e = .normal ∧ a.defers = s.dl ∧ At s.w0 s.A M w
def Step (P : Program) (ops : Array Oper) (s : St) (o : Oper) (d : Dat) (E : Env) (M : Hp) : Prop := match d.f with
  | .no => ∃ t, o.dst = some t ∧ t < s.n ∧ ∀ w1, Keeps s.A s.w0 w1 → L P ops (EndsQ (own1 s w1 []) t d.v []) [o] (own1 s w1 []) E []
  | .rd k c n => ∃ t b T l, o.dst = some t ∧ t < s.n ∧ hat M k = some (b, ob l T) ∧ ∀ l' : List Value, l'.length = l.length → (∀ i, c ≤ i → i < c + n → l'[i]? = l[i]?) → ∀ w1, Keeps s.A s.w0 w1 →
      L P ops (EndsQ (own1 s w1 [(b, ob l' T)]) t d.v [(b, ob l' T)]) [o] (own1 s w1 [(b, ob l' T)]) E [(b, ob l' T)]
  | .wr k c n => ∃ b T l, o.dst = none ∧ hat M k = some (b, ob l T) ∧ d.ws.length = n ∧ c + n ≤ l.length ∧ ∀ l' : List Value, l'.length = l.length → ∀ w1, Keeps s.A s.w0 w1 →
      L P ops (EndsW (own1 s w1 [(b, ob l' T)]) [(b, ob (setL l' c d.ws) T)]) [o] (own1 s w1 [(b, ob l' T)]) E [(b, ob l' T)]
def QW (P : Program) (ops : Array Oper) (Q : Exit → Act → World → Prop) : List Oper → List Fp → St → Env → Hp → Prop
  | [], acc, s, E, M => okW ops acc.reverse = true ∧ D Q .normal s E M
  | o :: rest, acc, s, E, M => ∃ d, Step P ops s o d E M ∧ QW P ops Q rest (d.f :: acc) s (d.env o E) (d.app M)
def wEnv : List Oper → List Dat → Env → Env
  | o :: os, d :: ds, E => wEnv os ds (d.env o E)
  | _, _, E => E

theorem insL_sub : ∀ {xs S : List Nat} {x : Nat}, x ∈ insL S xs → x ∈ S ∨ x ∈ xs
  | [], S, x, h => .inl h
  | y :: ys, S, x, h => by
    unfold insL at h
    split at h
    · rcases insL_sub h with h | h
      · exact .inl h
      · exact .inr (List.mem_cons_of_mem _ h)
    · rcases insL_sub h with h | h
      · rcases List.mem_cons.1 h with rfl | h
        · exact .inr List.mem_cons_self
        · exact .inl h
      · exact .inr (List.mem_cons_of_mem _ h)
theorem ancs_all {ops : Array Oper} {p : Nat → Prop} (hc : ∀ j o, ops[j]? = some o → p j → ∀ x ∈ edgesOf o, p x) : ∀ (n : Nat) (S : List Nat), (∀ x ∈ S, p x) → ∀ x ∈ ancs ops n S, p x
  | 0, S, h => h
  | n + 1, S, h => by
    unfold ancs
    refine ancs_all hc n _ fun x hx => ?_
    rcases insL_sub hx with hx | hx
    · exact h x hx
    · obtain ⟨j, hj, hx⟩ := List.mem_flatMap.1 hx
      cases ho : ops[j]? with
      | none => rw [ho] at hx; cases hx
      | some o => rw [ho] at hx; exact hc j o ho (h j hj) x hx
theorem hat_hset_all : ∀ (M : Hp) (i j : Nat) (o : Obj), hat (hset M i o) j = if j = i then (hat M i).map (fun x => (x.1, o)) else hat M j
  | [], i, j, o => by cases j <;> simp [hset, hat]
  | x :: r, 0, 0, o => rfl
  | x :: r, 0, j + 1, o => by simp [hset, hat]
  | x :: r, i + 1, 0, o => by simp [hset, hat]
  | x :: r, i + 1, j + 1, o => by
    simp only [hset, hat]
    rw [hat_hset_all r i j o]
    simp
theorem hat_ext : ∀ {M M' : Hp}, (∀ k, hat M k = hat M' k) → M = M'
  | [], [], _ => rfl
  | [], x :: r, h => by have := h 0; cases this
  | x :: r, [], h => by have := h 0; cases this
  | x :: r, y :: q, h => by
    have h0 := h 0
    simp only [hat, Option.some.injEq] at h0
    have h1 : r = q := hat_ext (fun k => by have := h (k + 1); simpa [hat] using this)
    rw [h0, h1]
theorem setL_get : ∀ (ws : List Value) (l : List Value) (c i : Nat), c + ws.length ≤ l.length → (setL l c ws)[i]? = if c ≤ i ∧ i < c + ws.length then ws[i - c]? else l[i]?
  | [], l, c, i, h => by rw [setL, if_neg (by simp)]
  | w :: ws, l, c, i, h => by
    rw [setL, setL_get ws _ _ _ (by simp only [List.length_cons] at h; rw [List.length_set]; omega)]
    simp only [List.length_cons] at h ⊢
    by_cases h1 : c + 1 ≤ i ∧ i < c + 1 + ws.length
    · rw [if_pos h1, if_pos (by omega)]
      have : i - c = (i - (c + 1)) + 1 := by omega
      rw [this]; simp
    · rw [if_neg h1]
      by_cases h2 : i = c
      · subst h2
        rw [if_pos (by omega), Nat.sub_self, List.getElem?_set_self (by omega)]; rfl
      · rw [if_neg (by omega), List.getElem?_set_ne (fun e => h2 e.symm)]
def cellM (M : Hp) (k c : Nat) : Option Value := match hat M k with
  | some (_, .cells a _ _) => a[c]?
  | _ => none
/-- The same blocks, of the same lengths. -/
def Shp (M M' : Hp) : Prop := ∀ k, hat M k = hat M' k ∨ ∃ b l l' T, hat M k = some (b, ob l T) ∧ hat M' k = some (b, ob l' T) ∧ l.length = l'.length
theorem Shp.refl (M : Hp) : Shp M M := fun _ => .inl rfl
theorem Shp.symm {M M' : Hp} (h : Shp M M') : Shp M' M := fun k => by
  rcases h k with h | ⟨b, l, l', T, h1, h2, h3⟩
  · exact .inl h.symm
  · exact .inr ⟨b, l', l, T, h2, h1, h3.symm⟩
theorem Shp.trans {M M' M'' : Hp} (h : Shp M M') (g : Shp M' M'') : Shp M M'' := fun k => by
  rcases h k with h | ⟨b, l, l', T, h1, h2, h3⟩
  · rw [h]; exact g k
  · rcases g k with g | ⟨b', m, m', T', g1, g2, g3⟩
    · exact .inr ⟨b, l, l', T, h1, by rw [← g]; exact h2, h3⟩
    · rw [h2] at g1
      simp only [Option.some.injEq, Prod.mk.injEq] at g1
      obtain ⟨rfl, g1⟩ := g1
      have e1 : l' = m ∧ T = T' := by
        simp only [ob, Obj.cells.injEq] at g1
        exact ⟨by simpa using g1.1, g1.2.1⟩
      obtain ⟨rfl, rfl⟩ := e1
      exact .inr ⟨b, l, m', T, h1, g2, h3.trans g3⟩
theorem Shp.get {M M' : Hp} (h : Shp M M') {k b T : Nat} {l : List Value} (hk : hat M k = some (b, ob l T)) : ∃ l', hat M' k = some (b, ob l' T) ∧ l'.length = l.length := by
  rcases h k with h | ⟨b', m, m', T', g1, g2, g3⟩
  · exact ⟨l, by rw [← h]; exact hk, rfl⟩
  · rw [hk] at g1
    simp only [Option.some.injEq, Prod.mk.injEq] at g1
    obtain ⟨rfl, g1⟩ := g1
    have e1 : l = m ∧ T = T' := by
      simp only [ob, Obj.cells.injEq] at g1
      exact ⟨by simpa using g1.1, g1.2.1⟩
    obtain ⟨rfl, rfl⟩ := e1
    exact ⟨m', g2, g3.symm⟩
theorem cellM_ob {M : Hp} {k b T : Nat} {l : List Value} (h : hat M k = some (b, ob l T)) (c : Nat) : cellM M k c = l[c]? := by
  unfold cellM; rw [h]; simp
theorem Shp.eq {M M' : Hp} (h : Shp M M') (hc : ∀ k c v, cellM M k c = some v → cellM M' k c = some v) : M = M' := hat_ext fun k => by
  rcases h k with h | ⟨b, l, l', T, h1, h2, h3⟩
  · exact h
  · have : l = l' := by
      refine List.ext_getElem? fun i => ?_
      have hi := hc k i
      rw [cellM_ob h1, cellM_ob h2] at hi
      cases hl : l[i]? with
      | some v => exact (hi v hl).symm
      | none =>
        have := List.getElem?_eq_none_iff.1 hl
        rw [List.getElem?_eq_none (by omega)]
    rw [h1, h2, this]
theorem wrM_ob {M : Hp} {k b T c : Nat} {l ws : List Value} (h : hat M k = some (b, ob l T)) : wrM M k c ws = hset M k (ob (setL l c ws) T) := by
  unfold wrM; rw [h]; simp [ob]
theorem Shp.wr {M : Hp} {k b T c : Nat} {l ws : List Value} (h : hat M k = some (b, ob l T)) : Shp M (hset M k (ob (setL l c ws) T)) := fun j => by
  rw [hat_hset_all]
  by_cases hj : j = k
  · subst hj
    rw [if_pos rfl, h]
    exact .inr ⟨b, l, setL l c ws, T, rfl, rfl, (setL_length _ _ _).symm⟩
  · rw [if_neg hj]; exact .inl rfl
theorem cell_wr {M : Hp} {k b T c0 : Nat} {l ws : List Value} (h : hat M k = some (b, ob l T)) (hl : c0 + ws.length ≤ l.length) (j c : Nat) :
    cellM (hset M k (ob (setL l c0 ws) T)) j c = if j = k ∧ c0 ≤ c ∧ c < c0 + ws.length then ws[c - c0]? else cellM M j c := by
  by_cases hj : j = k
  · subst hj
    have e : hat (hset M j (ob (setL l c0 ws) T)) j = some (b, ob (setL l c0 ws) T) := by rw [hat_hset_all, if_pos rfl, h]; rfl
    rw [cellM_ob e, setL_get _ _ _ _ hl, cellM_ob h]
    simp
  · rw [if_neg (fun x => hj x.1)]
    unfold cellM
    rw [hat_hset_all, if_neg hj]
/-- What an operation has stored at a cell. -/
def Dat.at (d : Dat) (k c : Nat) : Option Value := match d.f with
  | .wr k' c0 n => if k = k' ∧ c0 ≤ c ∧ c < c0 + n then d.ws[c - c0]? else none
  | _ => none
theorem Dat.at_sto {d : Dat} {k c : Nat} {v : Value} (h : d.at k c = some v) : d.f.sto k c = true := by
  unfold Dat.at at h
  unfold Fp.sto
  cases hf : d.f <;> rw [hf] at h <;> simp only at h ⊢
  all_goals first | cases h; done | skip
  split at h
  · rename_i hh
    obtain ⟨rfl, h1, h2⟩ := hh
    simp only [Bool.and_eq_true, Nat.beq_eq, Nat.ble_eq, Nat.blt_eq, true_and]
    exact ⟨h1, h2⟩
  · cases h
/-- A cell holds v, where these operations have come to an end. -/
def Is (ds : List Dat) (p : Nat → Prop) (M0 : Hp) (k c : Nat) (v : Value) : Prop :=
  (∃ j d, ds[j]? = some d ∧ p j ∧ d.at k c = some v ∧ ∀ j' d', j < j' → ds[j']? = some d' → p j' → d'.at k c = none) ∨ ((∀ j d, ds[j]? = some d → p j → d.at k c = none) ∧ cellM M0 k c = some v)
theorem Is.det {ds : List Dat} {p q : Nat → Prop} {M0 : Hp} {k c : Nat} {v u : Value} (h : Is ds p M0 k c v) (g : Is ds q M0 k c u) (hpq : ∀ j d, ds[j]? = some d → d.at k c ≠ none → (p j ↔ q j)) : v = u := by
  rcases h with ⟨j, d, h1, h2, h3, h4⟩ | ⟨h1, h2⟩
  · rcases g with ⟨j', d', g1, g2, g3, g4⟩ | ⟨g1, g2⟩
    · have e1 := hpq j d h1 (by rw [h3]; simp)
      have e2 := hpq j' d' g1 (by rw [g3]; simp)
      rcases Nat.lt_trichotomy j j' with hlt | rfl | hlt
      · have := h4 j' d' hlt g1 (e2.2 g2); rw [g3] at this; cases this
      · rw [h1] at g1; cases g1; rw [h3] at g3; exact Option.some.inj g3
      · have := g4 j d hlt h1 (e1.1 h2); rw [h3] at this; cases this
    · have e1 := hpq j d h1 (by rw [h3]; simp)
      have := g1 j d h1 (e1.1 h2); rw [h3] at this; cases this
  · rcases g with ⟨j', d', g1, g2, g3, g4⟩ | ⟨g1, g2⟩
    · have e2 := hpq j' d' g1 (by rw [g3]; simp)
      have := h1 j' d' g1 (e2.2 g2); rw [g3] at this; cases this
    · rw [h2] at g2; exact Option.some.inj g2
/-- One more has come to its end, which stores. -/
theorem Is.wr {ds : List Dat} {p q : Nat → Prop} {M0 : Hp} {i : Nat} {di : Dat} (hi : ds[i]? = some di) (hq : ∀ j, q j ↔ p j ∨ j = i) (hnp : ¬ p i) {k c : Nat} (hlate : ∀ j d, i < j → ds[j]? = some d → p j → di.f.clash d.f = false)
    {v : Value} (h : (∃ u, di.at k c = some u ∧ v = u) ∨ (di.at k c = none ∧ Is ds p M0 k c v)) : Is ds q M0 k c v := by
  rcases h with ⟨u, h1, rfl⟩ | ⟨h1, h2⟩
  · refine .inl ⟨i, di, hi, (hq i).2 (.inr rfl), h1, fun j d hlt hj hqj => ?_⟩
    rcases (hq j).1 hqj with hp | rfl
    · cases hd : d.at k c with
      | none => rfl
      | some u =>
        have := hlate j d hlt hj hp
        rw [Fp.clash_of (Fp.has_of_sto (Dat.at_sto h1)) (Fp.has_of_sto (Dat.at_sto hd)) (.inl (Dat.at_sto h1))] at this
        cases this
    · omega
  · have none_of : ∀ j d, ds[j]? = some d → j = i → d.at k c = none := by
      rintro j d hj rfl
      rw [hi] at hj; cases hj; exact h1
    rcases h2 with ⟨j, d, g1, g2, g3, g4⟩ | ⟨g1, g2⟩
    · refine .inl ⟨j, d, g1, (hq j).2 (.inl g2), g3, fun j' d' hlt hj' hqj => ?_⟩
      rcases (hq j').1 hqj with hp | e
      · exact g4 j' d' hlt hj' hp
      · exact none_of j' d' hj' e
    · refine .inr ⟨fun j d hj hqj => ?_, g2⟩
      rcases (hq j).1 hqj with hp | e
      · exact g1 j d hj hp
      · exact none_of j d hj e
section
variable {P : Program} {ops : Array Oper} {Q : Exit → Act → World → Prop} {s : St} {E : Env} {M : Hp}
theorem QW.vals : ∀ {l : List Oper} {acc : List Fp} {E : Env} {M : Hp}, QW P ops Q l acc s E M → ∃ ds : List Dat, ds.length = l.length ∧ okW ops (acc.reverse ++ ds.map (·.f)) = true ∧ D Q .normal s (wEnv l ds E) (ds.foldl Dat.app M) ∧
    ∀ (i : Nat) (o : Oper) (d : Dat), l[i]? = some o → ds[i]? = some d → Step P ops s o d (wEnv (l.take i) (ds.take i) E) ((ds.take i).foldl Dat.app M)
  | [], acc, E, M, h => ⟨[], rfl, by simpa using h.1, by unfold wEnv; exact h.2, fun i o d hi => by simp at hi⟩
  | o :: l, acc, E, M, ⟨d, h1, h2⟩ => by
    obtain ⟨ds, hl, hok, hD, hs⟩ := QW.vals h2
    refine ⟨d :: ds, by simp [hl], by simpa using hok, ?_, ?_⟩
    · unfold wEnv; exact hD
    · intro i p e hi he
      cases i with
      | zero => cases hi; cases he; simpa [wEnv] using h1
      | succ i =>
        have := hs i p e (by simpa using hi) (by simpa using he)
        rw [List.take_succ_cons, List.take_succ_cons]
        unfold wEnv; exact this
theorem Step.shp {o : Oper} {d : Dat} (h : Step P ops s o d E M) : Shp M (d.app M) := by
  unfold Step at h
  unfold Dat.app
  cases hf : d.f <;> rw [hf] at h <;> simp only at h ⊢
  · exact Shp.refl _
  · exact Shp.refl _
  · rename_i k' c' n
    obtain ⟨b, T, l, _, h2, _, _, _⟩ := h
    rw [wrM_ob h2]
    exact Shp.wr h2
theorem Step.cell {o : Oper} {d : Dat} (h : Step P ops s o d E M) (k c : Nat) : cellM (d.app M) k c = match d.at k c with
    | some u => some u
    | none => cellM M k c := by
  unfold Step at h
  unfold Dat.app Dat.at
  cases hf : d.f <;> rw [hf] at h <;> simp only at h ⊢
  rename_i k' c' n
  obtain ⟨b, T, l, _, h2, h3, h4, _⟩ := h
  rw [wrM_ob h2, cell_wr h2 (by omega), h3]
  by_cases hh : k = k' ∧ c' ≤ c ∧ c < c' + n
  · rw [if_pos hh, if_pos hh]
    have : c - c' < d.ws.length := by omega
    rw [List.getElem?_eq_getElem this]
  · rw [if_neg hh, if_neg hh]
theorem lk_wEnv : ∀ {os : List Oper} {ds : List Dat} {E : Env} {x : Nat} {v : Value}, os.length = ds.length → lk (wEnv os ds E) x = some v →
    (∃ (j : Nat) (o : Oper) (d : Dat), os[j]? = some o ∧ o.dst = some x ∧ ds[j]? = some d ∧ d.v = v) ∨ ((∀ (j : Nat) (o : Oper), os[j]? = some o → o.dst ≠ some x) ∧ lk E x = some v)
  | [], ds, E, x, v, _, h => by
    unfold wEnv at h
    exact .inr ⟨fun j o hj => by simp at hj, h⟩
  | o :: os, [], E, x, v, hl, h => by cases hl
  | o :: os, d :: ds, E, x, v, hl, h => by
    unfold wEnv at h
    rcases lk_wEnv (by simpa using hl) h with ⟨j, p, e, h1, h2, h3, h4⟩ | ⟨h1, h2⟩
    · exact .inl ⟨j + 1, p, e, by simpa using h1, h2, by simpa using h3, h4⟩
    · unfold Dat.env at h2
      cases hd : o.dst with
      | none =>
        rw [hd] at h2
        refine .inr ⟨fun j p hj => ?_, h2⟩
        cases j with
        | zero => cases hj; rw [hd]; simp
        | succ j => exact h1 j p (by simpa using hj)
      | some t =>
        rw [hd] at h2
        rcases lk_put h2 with ⟨rfl, rfl⟩ | ⟨hne, h2⟩
        · exact .inl ⟨0, o, d, rfl, hd, rfl, rfl⟩
        · refine .inr ⟨fun j p hj => ?_, h2⟩
          cases j with
          | zero => cases hj; rw [hd]; exact fun e => hne (by cases e; rfl)
          | succ j => exact h1 j p (by simpa using hj)
/-- The same operation, begun where all that it looks at is alike. -/
theorem wpOp_likeW {ro : Option Nat} {o : Oper} {i : Nat} {X : Exit → Act → World → Prop} {dl : List Deferred} {K : Act → World → Prop} {a a' : Act} {w : World} (hX : ∀ e a w, X e a w → e = .normal ∧ a.defers = dl) (ho : ops[i]? = some o) (hp : plainOp o.op = true) (hdl : a'.defers = dl)
    (h : ∀ x ∈ o.looksAt ops, a.tmps[x]? = a'.tmps[x]?) (hw : wpListIn (fen ro) 0 P ops X [o] a' w) (hK : ∀ u w', X .normal (a'.put o.dst u) w' → K (a.put o.dst u) w') : wpOpIn (fen ro) 0 P ops Q i K a w := by
  have hops : ∀ x ∈ o.op.operands, a.eval x = a'.eval x := fun x hx => act_eval_of h (fun t ht => by
    subst ht
    exact List.mem_append_left _ (List.mem_filterMap.2 ⟨.tmp t, by simpa using hx, rfl⟩))
  have hexec : execOp a.eval o = execOp a'.eval o := execOp_congr o (fun cs b e => by rw [e] at hp; cases hp) hops
  have habout : o.about P w a.eval = o.about P w a'.eval := about_congr o w hops
  unfold wpOpIn
  simp only [ho]
  rw [wanted_of h, habout]
  unfold wpListIn at hw
  split
  · rename_i hwt
    rw [if_pos hwt] at hw
    unfold Oper.wpIn at hw ⊢
    rw [habout]
    refine ⟨hw.1, ?_⟩
    have hw := hw.2
    have hnd : ∀ c, o.op ≠ .defer c := fun c e => by rw [e] at hp; cases hp
    rw [Oper.semAt_eq _ _ _ hnd] at hw ⊢
    rw [hexec]
    generalize (execOp a'.eval o).run P w = r at *
    have hnl : ¬ LetsOut X := fun ⟨a, w, h⟩ => absurd (hX _ _ _ h).1 (by simp)
    cases r with
    | ok x w' =>
      cases x <;> simp only [Oper.uponIn, wpListIn] at hw ⊢
      case value u => exact hK u w' hw
      case skip => exact hK _ w' hw
      case defer dd =>
        have h3 := (hX _ _ _ hw).2
        have h3' : dd :: a'.defers = dl := by
          cases hdst : o.dst <;> (rw [hdst] at h3; exact h3)
        rw [hdl] at h3'
        exact absurd (congrArg List.length h3') (by simp)
      case enter f args =>
        refine ⟨hw.1, CallsIn.mono hw.2 fun e w'' he => ?_⟩
        cases e with
        | returned u => exact hK u w'' he
        | panicked c => exact absurd (hX _ _ _ he).1 (by simp)
        | outgrown => exact absurd he hnl
      case row row args => exact ⟨hw.1, RowsIn.mono hw.2 fun u w'' he => hK u w'' he⟩
      case round l f tmps assign body =>
        refine ⟨hw.1, RoundIn.mono hw.2 fun e w'' he => ?_⟩
        cases e with
        | returned u => exact hK u w'' he
        | panicked c => exact absurd (hX _ _ _ he).1 (by simp)
        | outgrown => exact absurd he hnl
    | halt x w' =>
      cases x <;> simp only [Oper.uponIn] at hw ⊢
      case panic u => exact absurd (hX _ _ _ hw).1 (by simp)
  · rename_i hwt
    rw [if_neg hwt] at hw
    exact ⟨hw.1, hK _ w hw.2⟩
theorem Step.lt {o : Oper} {d : Dat} (h : Step P ops s o d E M) {t : Nat} (ht : o.dst = some t) : t < s.n := by
  unfold Step at h
  cases hf : d.f <;> rw [hf] at h <;> simp only at h
  · obtain ⟨t', h1, h2, _⟩ := h; rw [h1] at ht; cases ht; exact h2
  · obtain ⟨t', _, _, _, h1, h2, _⟩ := h; rw [h1] at ht; cases ht; exact h2
  · obtain ⟨_, _, _, h1, _⟩ := h; rw [h1] at ht; cases ht
theorem app_cell {k' c' n b T : Nat} {l : List Value} {d : Dat} (hf : d.f = .wr k' c' n) (h2 : hat M k' = some (b, ob l T)) (h3 : d.ws.length = n) (h4 : c' + n ≤ l.length) (k c : Nat) : cellM (hset M k' (ob (setL l c' d.ws) T)) k c = match d.at k c with
    | some u => some u
    | none => cellM M k c := by
  unfold Dat.at
  rw [hf, cell_wr h2 (by omega), h3]
  simp only
  by_cases hh : k = k' ∧ c' ≤ c ∧ c < c' + n
  · rw [if_pos hh, if_pos hh]
    have : c - c' < d.ws.length := by omega
    rw [List.getElem?_eq_getElem this]
  · rw [if_neg hh, if_neg hh]
theorem Shp.cell {M M' : Hp} (h : Shp M M') {k c : Nat} {v : Value} (hv : cellM M k c = some v) : ∃ u, cellM M' k c = some u := by
  rcases h k with h | ⟨b, l, l', T, h1, h2, h3⟩
  · exact ⟨v, by unfold cellM at hv ⊢; rw [← h]; exact hv⟩
  · rw [cellM_ob h1] at hv
    have := (List.getElem?_eq_some_iff.1 hv).1
    exact ⟨l'[c]'(by omega), by rw [cellM_ob h2, List.getElem?_eq_getElem]⟩
theorem QW.any {l : List Oper} {E0 : Env} (hE : ∀ i v, lk E0 i = some v → i < s.n) (h : QW P l.toArray Q l [] s E0 M) : N P l.toArray Q l.length (Array.replicate l.length false) s E0 M := by
  obtain ⟨ds, hvl, hok, hfin, hstep⟩ := h.vals
  rw [List.reverse_nil, List.nil_append] at hok
  have hq' : ∀ (i : Nat) (o : Oper) (d : Dat), l[i]? = some o → ds[i]? = some d → plainOp o.op = true ∧ (∀ e ∈ o.after, Region.binds .any e = true → e.on < i) ∧
      (∀ x ∈ o.looksAt l.toArray, ∀ (j : Nat) (p : Oper), l[j]? = some p → p.dst = some x → ∃ e ∈ o.after, Region.binds .any e = true ∧ e.on = j) ∧ (∀ (j : Nat) (p : Oper) (t : Nat), l[j]? = some p → j ≠ i → p.dst = some t → o.dst ≠ some t) ∧
      (∀ (j : Nat) (g : Dat), j < i → ds[j]? = some g → g.f.clash d.f = true → j ∈ ancs l.toArray l.length (edgesOf o)) := by
    intro i o d hi hd
    unfold okW at hok
    have hlt : i < l.length := (List.getElem?_eq_some_iff.1 hi).1
    have h1 := List.all_eq_true.1 hok i (by simpa using hlt)
    simp only [List.getElem?_toArray, List.getElem?_map, hi, hd, Option.map_some, Bool.and_eq_true] at h1
    obtain ⟨⟨⟨⟨g1, g2⟩, g3⟩, g4⟩, g5⟩ := h1
    refine ⟨g1, fun e he hb => ?_, fun x hx j p hj hp => ?_, fun j p t hj hne hp => ?_, fun j g hji hj hc => ?_⟩
    · have := Array.all_eq_true'.1 g2 e he
      simpa [hb, Nat.blt_eq] using this
    · have h2 := List.all_eq_true.1 (List.all_eq_true.1 g3 x hx) j (by simpa using (List.getElem?_eq_some_iff.1 hj).1)
      simp only [hj, hp, bne_self_eq_false, Bool.false_or] at h2
      obtain ⟨e, he, hb⟩ := Array.any_eq_true'.1 h2
      simp only [Bool.and_eq_true, beq_iff_eq] at hb
      exact ⟨e, he, hb.1, hb.2⟩
    · have h2 := List.all_eq_true.1 g4 j (by simpa using (List.getElem?_eq_some_iff.1 hj).1)
      simp only [hj, Bool.or_eq_true, beq_iff_eq, hne, false_or, bne_iff_ne, hp] at h2
      rcases h2 with h2 | h2
      · cases h2
      · exact fun e => h2 e.symm
    · have h2 := List.all_eq_true.1 g5 j (by simpa using hji)
      simp only [hj, Option.map_some, hc, Bool.not_true, Bool.false_or, List.size_toArray] at h2
      simpa using h2
  have hval : ∀ (i : Nat) (o : Oper), l[i]? = some o → ∃ d, ds[i]? = some d := fun i o hi => by
    have hlt : i < ds.length := by rw [hvl]; exact (List.getElem?_eq_some_iff.1 hi).1
    exact ⟨ds[i], List.getElem?_eq_getElem hlt⟩
  have hop : ∀ (i : Nat) (d : Dat), ds[i]? = some d → ∃ o, l[i]? = some o := fun i d hi => by
    have hlt : i < l.length := by rw [← hvl]; exact (List.getElem?_eq_some_iff.1 hi).1
    exact ⟨l[i], List.getElem?_eq_getElem hlt⟩
  -- memory in the text's order
  have hMs : ∀ i d, ds[i]? = some d → (ds.take (i + 1)).foldl Dat.app M = d.app ((ds.take i).foldl Dat.app M) := fun i d hd => by
    rw [List.take_add_one, hd, List.foldl_append]; rfl
  have hshp : ∀ i, i ≤ ds.length → Shp M ((ds.take i).foldl Dat.app M) := by
    intro i
    induction i with
    | zero => intro _; exact Shp.refl M
    | succ i ih =>
      intro hi
      have hd : ds[i]? = some ds[i] := List.getElem?_eq_getElem (by omega)
      obtain ⟨o, ho⟩ := hop i _ hd
      rw [hMs i _ hd]
      exact (ih (by omega)).trans (Step.shp (hstep i o _ ho hd))
  have hIs : ∀ i, i ≤ ds.length → ∀ k c v, cellM ((ds.take i).foldl Dat.app M) k c = some v → Is ds (· < i) M k c v := by
    intro i
    induction i with
    | zero => intro _ k c v hv; exact .inr ⟨fun j d _ hj => absurd hj (Nat.not_lt_zero _), hv⟩
    | succ i ih =>
      intro hi k c v hv
      have hd : ds[i]? = some ds[i] := List.getElem?_eq_getElem (by omega)
      obtain ⟨o, ho⟩ := hop i _ hd
      rw [hMs i _ hd, Step.cell (hstep i o _ ho hd)] at hv
      refine Is.wr (p := (· < i)) hd (fun j => by omega) (by omega) (fun j d hlt _ hp => absurd hp (by omega)) ?_
      cases ha : (ds[i]).at k c with
      | some u => rw [ha] at hv; exact .inl ⟨u, rfl, (Option.some.inj hv).symm⟩
      | none => rw [ha] at hv; exact .inr ⟨rfl, ih (by omega) k c v hv⟩
  have main : ∀ (fuel : Nat) (listed : Array Bool) (a : Act) (w : World) (Mc : Hp), listed.size = l.length → (un l.length listed).length ≤ fuel →
      (∀ j o, l[j]? = some o → listed.getD j true = true → ∀ e ∈ o.after, Region.binds .any e = true → listed.getD e.on true = true) →
      At s.w0 s.A Mc w → Shp M Mc → (∀ k c v, cellM Mc k c = some v → Is ds (fun j => j < l.length ∧ listed.getD j true = true) M k c v) → a.defers = s.dl → a.tmps.size = s.n →
      (∀ x v, lk E0 x = some v → (∀ (j : Nat) (o : Oper), l[j]? = some o → o.dst ≠ some x) → a.tmps[x]? = some v) →
      (∀ (j : Nat) (o : Oper) (d : Dat) (t : Nat), l[j]? = some o → ds[j]? = some d → listed.getD j true = true → o.dst = some t → a.tmps[t]? = some d.v) →
      wpAnyIn (fen s.ro) 0 P .any l.toArray Q fuel listed a w := by
    intro fuel
    have fin : ∀ (listed : Array Bool) (a : Act) (w : World) (Mc : Hp), (∀ j, j < l.length → listed.getD j true = true) →
      At s.w0 s.A Mc w → Shp M Mc → (∀ k c v, cellM Mc k c = some v → Is ds (fun j => j < l.length ∧ listed.getD j true = true) M k c v) → a.defers = s.dl → a.tmps.size = s.n →
      (∀ x v, lk E0 x = some v → (∀ (j : Nat) (o : Oper), l[j]? = some o → o.dst ≠ some x) → a.tmps[x]? = some v) →
      (∀ (j : Nat) (o : Oper) (d : Dat) (t : Nat), l[j]? = some o → ds[j]? = some d → listed.getD j true = true → o.dst = some t → a.tmps[t]? = some d.v) → Q .normal a w := by
      intro listed a w Mc hall hw hsh hcell hdl hsz hb hv
      have hn : ds.take ds.length = ds := List.take_length
      have e : Mc = ds.foldl Dat.app M := by
        have hsh2 := hshp ds.length (Nat.le_refl _)
        rw [hn] at hsh2
        refine Shp.eq (hsh.symm.trans hsh2) fun k c v hc => ?_
        obtain ⟨u, hu⟩ := (hsh.symm.trans hsh2).cell hc
        have h1 := hcell k c v hc
        have h2 := hIs ds.length (Nat.le_refl _) k c u (by rw [hn]; exact hu)
        rw [hu, Is.det h1 h2 (fun j d hj _ => by
          have := (List.getElem?_eq_some_iff.1 hj).1
          exact ⟨fun _ => this, fun _ => ⟨by omega, hall j (by omega)⟩⟩)]
      refine hfin a w ⟨e ▸ hw, hdl, hsz, fun x v hx => ?_⟩
      rcases lk_wEnv hvl.symm hx with ⟨j, o, d, h1, h2, h3, rfl⟩ | ⟨h1, h2⟩
      · exact hv j o d x h1 h3 (hall j (List.getElem?_eq_some_iff.1 h1).1) h2
      · exact hb x v h2 h1
    have hready : ∀ (listed : Array Bool), listed.size = l.length → Region.ready .any l.toArray listed = [] → ∀ j, j < l.length → listed.getD j true = true := by
      intro listed hsz hr j
      induction j using Nat.strongRecOn with
      | _ j ih =>
        intro hj
        cases hl : listed.getD j true with
        | true => rfl
        | false =>
          exfalso
          have ho : l[j]? = some l[j] := List.getElem?_eq_getElem hj
          obtain ⟨d, hd⟩ := hval j _ ho
          have : j ∈ Region.ready .any l.toArray listed := by
            unfold Region.ready
            refine List.mem_filter.2 ⟨by simpa using hj, ?_⟩
            simp only [hl, List.getElem?_toArray, ho, Option.map_some, Option.getD_some, Bool.not_false, Bool.true_and]
            refine Array.all_eq_true'.2 fun e he => ?_
            cases hb : Region.binds .any e with
            | false => rfl
            | true =>
              have hlt := (hq' j _ d ho hd).2.1 e he hb
              have h2 := ih e.on hlt (by omega)
              rw [Array.getD_eq_getD_getElem?] at h2 ⊢
              rw [Array.getElem?_eq_getElem (by omega)] at h2 ⊢
              simpa using h2
          rw [hr] at this; cases this
    induction fuel with
    | zero =>
      intro listed a w Mc hsz hun hcl hw hsh hcell hdl hts hb hv
      have hall : ∀ j, j < l.length → listed.getD j true = true := by
        intro j hj
        cases hl : listed.getD j true with
        | true => rfl
        | false =>
          have : j ∈ un l.length listed := List.mem_filter.2 ⟨List.mem_range.2 hj, by rw [hl]; rfl⟩
          have := List.length_pos_of_mem this
          omega
      refine ⟨?_, fin listed a w Mc hall hw hsh hcell hdl hts hb hv⟩
      unfold Region.ready
      refine List.filter_eq_nil_iff.2 fun j hj => ?_
      rw [hall j (by simpa using hj)]; simp
    | succ fuel ih =>
      intro listed a w Mc hsz hun hcl hw hsh hcell hdl hts hb hv
      refine ⟨fun hr => fin listed a w Mc (hready listed hsz hr) hw hsh hcell hdl hts hb hv, fun i hi => ?_⟩
      unfold Region.ready at hi
      obtain ⟨hir, hi⟩ := List.mem_filter.1 hi
      have hlt : i < l.length := by simpa using hir
      have ho : l[i]? = some l[i] := List.getElem?_eq_getElem hlt
      obtain ⟨o, hoe⟩ : ∃ (o : Oper), o = l[i] := ⟨_, rfl⟩
      rw [← hoe] at ho
      simp only [List.getElem?_toArray, ho, Option.map_some, Option.getD_some, Bool.and_eq_true, Bool.not_eq_true'] at hi
      obtain ⟨hun_i, hafter⟩ := hi
      obtain ⟨d, hdi⟩ := hval i o ho
      have hL := hstep i o d ho hdi
      obtain ⟨q1, q2, q3, q4, q5⟩ := hq' i o d ho hdi
      have hdeps : ∀ e ∈ o.after, Region.binds .any e = true → listed.getD e.on true = true := by
        intro e he hbd
        have := Array.all_eq_true'.1 hafter e he
        simp only [hbd, Bool.not_true, Bool.false_or] at this
        have hlt2 := q2 e he hbd
        rw [Array.getD_eq_getD_getElem?] at this ⊢
        rw [Array.getElem?_eq_getElem (by omega)] at this ⊢
        simpa using this
      have hancs : ∀ (o' : Oper), (∀ e ∈ o'.after, Region.binds .any e = true → listed.getD e.on true = true) → ∀ x ∈ ancs l.toArray l.length (edgesOf o'), listed.getD x true = true := by
        intro o' h'
        refine ancs_all (fun j p hj hp x hx => ?_) _ _ (fun x hx => ?_)
        · unfold edgesOf at hx
          obtain ⟨e, he, rfl⟩ := List.mem_map.1 hx
          obtain ⟨he, hbd⟩ := List.mem_filter.1 he
          exact hcl j p (by simpa using hj) hp e (by simpa using he) hbd
        · unfold edgesOf at hx
          obtain ⟨e, he, rfl⟩ := List.mem_map.1 hx
          obtain ⟨he, hbd⟩ := List.mem_filter.1 he
          exact h' e (by simpa using he) hbd
      -- what clashes with it is listed just where it stands ahead
      have hbefore : ∀ j g, j < i → ds[j]? = some g → g.f.clash d.f = true → listed.getD j true = true := fun j g hji hj hc => hancs o hdeps j (q5 j g hji hj hc)
      have hlate : ∀ j g, i < j → ds[j]? = some g → listed.getD j true = true → d.f.clash g.f = false := by
        intro j g hij hj hlj
        cases hc : d.f.clash g.f with
        | false => rfl
        | true =>
          obtain ⟨p, hp⟩ := hop j g hj
          have h1 := (hq' j p g hp hj).2.2.2.2 i d hij hdi hc
          have := hancs p (hcl j p hp hlj) i h1
          rw [hun_i] at this; cases this
      -- where the text's order would stand
      obtain ⟨Ei, hEi⟩ : ∃ Ei, Ei = wEnv (l.take i) (ds.take i) E0 := ⟨_, rfl⟩
      obtain ⟨Mi, hMi⟩ : ∃ Mi, Mi = (ds.take i).foldl Dat.app M := ⟨_, rfl⟩
      rw [← hEi, ← hMi] at hL
      have hin : i ≤ ds.length := by omega
      have hshi : Shp Mi Mc := by rw [hMi]; exact (hshp i hin).symm.trans hsh
      have hisi := hIs i hin
      rw [← hMi] at hisi
      have htl : (l.take i).length = (ds.take i).length := by rw [List.length_take, List.length_take, hvl]
      have hcase : ∀ x u, lk Ei x = some u → (∃ j p g, j < i ∧ l[j]? = some p ∧ p.dst = some x ∧ ds[j]? = some g ∧ g.v = u) ∨ ((∀ j p, j < i → l[j]? = some p → p.dst ≠ some x) ∧ lk E0 x = some u) := by
        intro x u hx
        rw [hEi] at hx
        rcases lk_wEnv htl hx with ⟨j, p, g, h1, h2, h3, h4⟩ | ⟨h1, h2⟩
        · rw [List.getElem?_take] at h1 h3
          split at h1
          · rename_i hji
            rw [if_pos hji] at h3
            exact .inl ⟨j, p, g, hji, h1, h2, h3, h4⟩
          · cases h1
        · exact .inr ⟨fun j p hji hp => h1 j p (by rw [List.getElem?_take, if_pos hji]; exact hp), h2⟩
      have hlt_of : ∀ x u, lk Ei x = some u → x < s.n := by
        intro x u hx
        rcases hcase x u hx with ⟨j, p, g, h0, h1, h2, h3, _⟩ | ⟨_, h2⟩
        · exact (hstep j p g h1 h3).lt h2
        · exact hE x u h2
      obtain ⟨a', ha'⟩ : ∃ a' : Act, a' = { a with tmps := Array.ofFn (n := s.n) fun k => (lk Ei k.1).getD (a.tmps.getD k.1 undef) } := ⟨_, rfl⟩
      have ht' : ∀ x, x < s.n → a'.tmps[x]? = some ((lk Ei x).getD (a.tmps.getD x undef)) := by
        intro x hx
        rw [ha']
        simp [hx]
      have hsz' : a'.tmps.size = s.n := by rw [ha']; simp
      have hdl' : a'.defers = s.dl := by rw [ha']; exact hdl
      have hsat : ∀ B, At w (keys B) B w → Sat (own1 s w B) Ei B a' w := fun B hB => ⟨hB, hdl', hsz', fun x u hx => by rw [ht' x (hlt_of x u hx), hx]; rfl⟩
      have hsame : ∀ x ∈ o.looksAt l.toArray, a.tmps[x]? = a'.tmps[x]? := by
        intro x hx
        rcases Nat.lt_or_ge x s.n with hxn | hxn
        · rw [ht' x hxn]
          cases hl : lk Ei x with
          | none =>
            rw [Array.getD_eq_getD_getElem?, Array.getElem?_eq_getElem (by omega)]; rfl
          | some u =>
            rcases hcase x u hl with ⟨j, p, g, h0, h1, h2, h3, rfl⟩ | ⟨h1, h2⟩
            · obtain ⟨ed, hed, hbd, rfl⟩ := q3 x hx j p h1 h2
              exact hv ed.on p g x h1 h3 (hdeps ed hed hbd) h2
            · refine hb x u h2 (fun j p hj e => ?_)
              obtain ⟨ed, hed, hbd, rfl⟩ := q3 x hx j p hj e
              exact h1 ed.on p (q2 ed hed hbd) hj e
        · rw [Array.getElem?_eq_none (by omega), Array.getElem?_eq_none (by omega)]
      -- what is so behind it
      have go : ∀ (u : Value) (w' : World) (Mc' : Hp), At s.w0 s.A Mc' w' → Shp M Mc' → (∀ k c v, cellM Mc' k c = some v → (∃ u, d.at k c = some u ∧ v = u) ∨ (d.at k c = none ∧ cellM Mc k c = some v)) → (∀ t, o.dst = some t → u = d.v) →
          wpAnyIn (fen s.ro) 0 P .any l.toArray Q fuel (listed.setIfInBounds i true) (a.put o.dst u) w' := by
        intro u w' Mc' hw' hsh' hc' hu
        have hset : ∀ j, (listed.setIfInBounds i true).getD j true = true ↔ listed.getD j true = true ∨ j = i := by
          intro j
          rw [Array.getD_eq_getD_getElem?, Array.getD_eq_getD_getElem?]
          by_cases hj : j = i
          · subst hj
            rw [Array.getElem?_setIfInBounds_self_of_lt (by omega)]; simp
          · rw [Array.getElem?_setIfInBounds_ne (fun e => hj e.symm)]; simp [hj]
        refine ih _ _ _ Mc' (by simpa using hsz) (by have := un_set hlt hsz hun_i; omega) (fun j p hj hlj e he hbd => ?_) hw' hsh' (fun k c v hcv => ?_) ?_ ?_ (fun x v hx hn => ?_) (fun j p g t hj hg hlj ht => ?_)
        · rw [hset] at hlj ⊢
          rcases hlj with hlj | rfl
          · exact .inl (hcl j p hj hlj e he hbd)
          · rw [ho] at hj; cases hj; exact .inl (hdeps e he hbd)
        · refine Is.wr (p := fun j => j < l.length ∧ listed.getD j true = true) hdi (fun j => ?_) (fun hh => by rw [hun_i] at hh; cases hh.2) (fun j g hij hj hh => hlate j g hij hj hh.2) ?_
          · rw [hset]
            constructor
            · rintro ⟨h1, h2 | h2⟩
              · exact .inl ⟨h1, h2⟩
              · exact .inr h2
            · rintro (⟨h1, h2⟩ | rfl)
              · exact ⟨h1, .inl h2⟩
              · exact ⟨hlt, .inr rfl⟩
          · rcases hc' k c v hcv with h1 | ⟨h1, h2⟩
            · exact .inl h1
            · exact .inr ⟨h1, hcell k c v h2⟩
        · cases o.dst <;> exact hdl
        · cases hod : o.dst <;> simpa [Act.put] using hts
        · cases hod : o.dst with
          | none => exact hb x v hx hn
          | some t =>
            simp only [Act.put]
            rw [Array.getElem?_setIfInBounds_ne (fun e => hn i o ho (by rw [hod, e]))]
            exact hb x v hx hn
        · rw [hset] at hlj
          by_cases hji : j = i
          · subst hji
            rw [ho] at hj; cases hj
            rw [hdi] at hg; cases hg
            rw [ht, hu t ht]
            simp only [Act.put]
            rw [Array.getElem?_setIfInBounds_self_of_lt (by rw [hts]; exact hL.lt ht)]
          · have hlj' := hlj.resolve_right hji
            have h1 := hv j p g t hj hg hlj' ht
            cases hod : o.dst with
            | none => exact h1
            | some t' =>
              simp only [Act.put]
              rw [Array.getElem?_setIfInBounds_ne (fun e => q4 j p t hj hji ht (by rw [hod, e]))]
              exact h1
      have hown : ∀ k b o', hat Mc k = some (b, o') → At w (keys [(b, o')]) [(b, o')] w := fun k b o' hk =>
        At.own (by simp [keys]) (fun x hx => by obtain rfl := List.mem_singleton.1 hx; exact hw.holds _ (hat_mem hk))
      unfold Step at hL
      cases hf : d.f with
      | no =>
        rw [hf] at hL
        obtain ⟨t, hd, hdn, hL⟩ := hL
        have hwp := hL w hw.keeps a' w (hsat [] (At.start w))
        refine wpOp_likeW (X := EndsQ (own1 s w []) t d.v []) (dl := s.dl) (fun e a w hx => ⟨hx.1, hx.2.2.1⟩) (by simpa using ho) q1 hdl' hsame hwp (fun u w' hx => ?_)
        obtain ⟨_, hx2, _, hx4⟩ := hx
        have hfr := hw.frame (is := []) rfl hx4
        rw [hdrop_nil, List.nil_append] at hfr
        refine go u w' Mc hfr hsh (fun k c v hcv => .inr ⟨?_, hcv⟩) (fun t' ht' => ?_)
        · unfold Dat.at; rw [hf]
        · rw [hd] at hx2
          simp only [Act.put, Array.getElem?_setIfInBounds_self_of_lt (show t < a'.tmps.size by rw [hsz']; exact hdn)] at hx2
          exact Option.some.inj hx2
      | rd k c n =>
        rw [hf] at hL
        obtain ⟨t, b, T, m, hd, hdn, hk, hL⟩ := hL
        obtain ⟨m', hk', hm'⟩ := hshi.get hk
        have hwp := hL m' hm' (fun j hj1 hj2 => by
          rcases Nat.lt_or_ge j m.length with hjl | hjl
          · have h1 : cellM Mi k j = some m[j] := by rw [cellM_ob hk, List.getElem?_eq_getElem hjl]
            have h2 : cellM Mc k j = some (m'[j]'(by omega)) := by rw [cellM_ob hk', List.getElem?_eq_getElem]
            have := Is.det (hisi _ _ _ h1) (hcell _ _ _ h2) (fun j' g hj' hg => by
              have hgs : g.f.sto k j = true := by
                cases hga : g.at k j with
                | none => exact absurd hga hg
                | some x => exact Dat.at_sto hga
              have hds : d.f.has k j = true := by
                rw [hf]; simp only [Fp.has, Bool.and_eq_true, Nat.beq_eq, Nat.ble_eq, Nat.blt_eq]; exact ⟨trivial, hj1, hj2⟩
              constructor
              · intro hlt'
                exact ⟨by omega, hbefore j' g hlt' hj' (Fp.clash_of (Fp.has_of_sto hgs) hds (.inl hgs))⟩
              · rintro ⟨_, hl'⟩
                rcases Nat.lt_trichotomy j' i with h3 | rfl | h3
                · exact h3
                · rw [hun_i] at hl'; cases hl'
                · have := hlate j' g h3 hj' hl'
                  rw [Fp.clash_of hds (Fp.has_of_sto hgs) (.inr hgs)] at this; cases this)
            rw [List.getElem?_eq_getElem hjl, List.getElem?_eq_getElem, this]
          · rw [List.getElem?_eq_none hjl, List.getElem?_eq_none (by omega)]) w hw.keeps a' w (hsat _ (hown k b _ hk'))
        refine wpOp_likeW (X := EndsQ (own1 s w [(b, ob m' T)]) t d.v [(b, ob m' T)]) (dl := s.dl) (fun e a w hx => ⟨hx.1, hx.2.2.1⟩) (by simpa using ho) q1 hdl' hsame hwp (fun u w' hx => ?_)
        obtain ⟨_, hx2, _, hx4⟩ := hx
        have hfr := hw.frame (is := [k]) (B := [(b, ob m' T)]) (by simp [hpick, hk']) hx4
        have hfr := At.one hw.nodup hk' hfr
        rw [hset_same hk'] at hfr
        refine go u w' Mc hfr hsh (fun k c v hcv => .inr ⟨?_, hcv⟩) (fun t' ht' => ?_)
        · unfold Dat.at; rw [hf]
        · rw [hd] at hx2
          simp only [Act.put, Array.getElem?_setIfInBounds_self_of_lt (show t < a'.tmps.size by rw [hsz']; exact hdn)] at hx2
          exact Option.some.inj hx2
      | wr k c n =>
        rw [hf] at hL
        obtain ⟨b, T, m, hd, hk, hlen, hcn, hL⟩ := hL
        obtain ⟨m', hk', hm'⟩ := hshi.get hk
        have hwp := hL m' hm' w hw.keeps a' w (hsat _ (hown k b _ hk'))
        refine wpOp_likeW (X := EndsW (own1 s w [(b, ob m' T)]) [(b, ob (setL m' c d.ws) T)]) (dl := s.dl) (fun e a w hx => ⟨hx.1, hx.2.1⟩) (by simpa using ho) q1 hdl' hsame hwp (fun u w' hx => ?_)
        obtain ⟨_, _, hx4⟩ := hx
        have hfr := hw.frame (is := [k]) (B := [(b, ob m' T)]) (by simp [hpick, hk']) hx4
        have hfr := At.one hw.nodup hk' hfr
        refine go u w' _ hfr (hsh.trans (Shp.wr hk')) (fun k2 c2 v hcv => ?_) (fun t' ht' => by rw [hd] at ht'; cases ht')
        rw [app_cell hf hk' hlen (by omega)] at hcv
        cases ha : d.at k2 c2 with
        | some x => rw [ha] at hcv; exact .inl ⟨x, rfl, (Option.some.inj hcv).symm⟩
        | none => rw [ha] at hcv; exact .inr ⟨rfl, hcv⟩
  intro a w hs
  refine main l.length _ a w M (by simp) (by unfold un; exact Nat.le_trans (List.length_filter_le _ _) (by simp)) (fun j o hj hl => ?_) hs.at_ (Shp.refl M) (fun k c v hc => .inr ⟨fun j d hj hp => ?_, hc⟩) hs.defers hs.size (fun x v hx _ => hs.env x v hx) (fun j o d t hj hd hl => ?_)
  · have hlt : j < l.length := (List.getElem?_eq_some_iff.1 hj).1
    simp [hlt] at hl
  · simp [hp.1] at hp
  · have hlt : j < l.length := (List.getElem?_eq_some_iff.1 hj).1
    simp [hlt] at hl
/-- A drawn region that loads and stores, in the text's order. -/
theorem C.mixed {id : Nat} {l : List Oper} (hm : P.follows .mixedOrders = true := by kernel_rfl) (h : QW P l.toArray Q l [] s E M) : C P (.region id l.toArray true) Q s E M := by
  intro a w hs
  have hE : ∀ i v, lk E i = some v → i < s.n := fun i v h => by rw [← hs.size]; exact (Array.getElem?_eq_some_iff.1 (hs.env i v h)).1
  exact C.draw hm (QW.any hE h) a w hs
theorem lk_hd (E : Env) (d : Nat) (v : Value) : lk ((d, v) :: E) d = some v := by
  unfold lk; rw [Nat.beq_refl]
variable {rest : List Oper} {acc : List Fp} {d t : Nat} {pos : String} {af : Array Edge}
theorem QW.fin (hk : okW ops acc.reverse = true := by decide +kernel) (h : D Q .normal s E M) : QW P ops Q [] acc s E M := ⟨hk, h⟩
/-- An operation that has nothing to do with memory of one's own. -/
theorem QW.free {o : Oper} {v : Value} (hd : o.dst = some d := by exact rfl) (hn : Nat.blt d s.n = true := by exact rfl) (h : ∀ w1, Keeps s.A s.w0 w1 → L P ops (EndsQ { w0 := w1, A := [], n := s.n, ro := s.ro, dl := s.dl } d v []) [o] { w0 := w1, A := [], n := s.n, ro := s.ro, dl := s.dl } E [])
    (k : QW P ops Q rest (.no :: acc) s ((d, v) :: E) M) : QW P ops Q (o :: rest) acc s E M :=
  ⟨⟨v, .no, []⟩, ⟨d, hd, by simpa [Nat.blt_eq] using hn, h⟩, by unfold Dat.env Dat.app; rw [hd]; exact k⟩
theorem QW.load (i : Nat) {x : Operand} {T T' b o : Nat} {l : List Value} {v : Value} {ds : TypeDesc} [hu : Und P T ds] (hn : Nat.blt d s.n = true := by exact rfl) (hx : ev E x = some (.pointer (some ⟨b, o, none⟩)) := by exact rfl) (hi : hat M i = some (b, ob l T') := by exact rfl)
    (hg : aggB ds = false := by exact rfl) (hv : l[o]? = some v := by exact rfl)
    (k : QW P ops Q rest (.rd i o 1 :: acc) s ((d, v) :: E) M) : QW P ops Q (⟨some d, .load T x, t, pos, af, none⟩ :: rest) acc s E M :=
  ⟨⟨v, .rd i o 1, []⟩, ⟨d, b, T', l, rfl, by simpa [Nat.blt_eq] using hn, hi, fun l' hl hc w1 _ => L.load1 0 (hn := hn) (hx := hx) (hi := rfl) (hg := hg) (hv := by rw [hc o (Nat.le_refl _) (by omega)]; exact hv) (c := L.nil (D.endsQ (h := lk_hd E d v) (hM := rfl)))⟩, k⟩
theorem take_like {l l' : List Value} {o n : Nat} (hl : l'.length = l.length) (hc : ∀ i, o ≤ i → i < o + n → l'[i]? = l[i]?) : (l'.drop o).take n = (l.drop o).take n := by
  refine List.ext_getElem? fun i => ?_
  rw [List.getElem?_take, List.getElem?_take]
  by_cases h : i < n
  · rw [if_pos h, if_pos h, List.getElem?_drop, List.getElem?_drop, hc (o + i) (by omega) (by omega)]
  · rw [if_neg h, if_neg h]
theorem QW.loadA (i : Nat) {x : Operand} {T T' b o n : Nat} {l : List Value} {ds : TypeDesc} [hu : Und P T ds] [hz : Siz P T n] (hn : Nat.blt d s.n = true := by exact rfl) (hx : ev E x = some (.pointer (some ⟨b, o, none⟩)) := by exact rfl) (hi : hat M i = some (b, ob l T') := by exact rfl)
    (hg : aggB ds = true := by exact rfl) (hv : Nat.ble (o + n) l.length = true := by exact rfl) {l' : List Value} (hl : (l.drop o).take n = l' := by simp only [List.drop_zero, List.drop_succ_cons, List.take_succ_cons, List.take_zero, List.take_nil]; rfl)
    (k : QW P ops Q rest (.rd i o n :: acc) s ((d, .agg l'.toArray) :: E) M) : QW P ops Q (⟨some d, .load T x, t, pos, af, none⟩ :: rest) acc s E M :=
  ⟨⟨.agg l'.toArray, .rd i o n, []⟩, ⟨d, b, T', l, rfl, by simpa [Nat.blt_eq] using hn, hi, fun l2 hl2 hc w1 _ => L.loadA 0 (hn := hn) (hx := hx) (hi := rfl) (hg := hg) (hv := by rw [Nat.ble_eq, hl2]; exact Nat.le_of_ble_eq_true hv) (hl := by rw [take_like hl2 hc]; exact hl) (c := L.nil (D.endsQ (h := lk_hd E d _) (hM := rfl)))⟩, k⟩
theorem QW.store (i : Nat) {x y : Operand} {T T' b o n : Nat} {l : List Value} {v : Value} {vs l' : List Value} [hz : Siz P T n] (hx : ev E x = some (.pointer (some ⟨b, o, none⟩)) := by exact rfl) (hy : ev E y = some v := by exact rfl) (hi : hat M i = some (b, ob l T') := by exact rfl)
    (hc : v.cells = vs.toArray := by exact rfl) (hlen : vs.length = n := by exact rfl) (ho : vs.all oneB = true := by exact rfl) (hb : Nat.ble (o + n) l.length = true := by exact rfl) (hl : setL l o vs = l' := by simp only [setL, Nat.zero_add, List.set_cons_zero, List.set_cons_succ]; rfl) {M' : Hp} (hM : hset M i (ob l' T') = M' := by simp only [hset]; rfl)
    (k : QW P ops Q rest (.wr i o n :: acc) s E M') : QW P ops Q (⟨none, .store T x y, t, pos, af, none⟩ :: rest) acc s E M :=
  ⟨⟨undef, .wr i o n, vs⟩, ⟨b, T', l, rfl, hi, hlen, Nat.le_of_ble_eq_true hb, fun l2 hl2 w1 _ => L.storeV 0 (hx := hx) (hy := hy) (hi := rfl) (hc := hc) (hlen := hlen) (ho := ho) (hb := by rw [Nat.ble_eq, hl2]; exact Nat.le_of_ble_eq_true hb) (hl := rfl) (hM := rfl) (c := L.nil (fun a w hs => ⟨rfl, hs.defers, hs.at_⟩))⟩,
    by unfold Dat.env Dat.app; simp only; rw [wrM_ob hi, hl, hM]; exact k⟩
end
end Go.Proofs.Ytbackpcohkblfaa.SL
