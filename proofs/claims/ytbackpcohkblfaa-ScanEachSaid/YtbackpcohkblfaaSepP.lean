/- The separation logic's rule for a drawn region whose operations make memory: what each makes is told by a relation, and goes to the one operation that takes it over; the others yield known values. No program in sight. -/
import Derived.Test.YtbackpcohkblfaaSepY
set_option linter.unusedVariables false
set_option linter.unusedSimpArgs false
namespace Go.Proofs.Ytbackpcohkblfaa.SL
open Go Go.RowKit

/-- What an operation makes: of which operations it takes over what they made; blocks that it takes at first; slots and blocks that it leaves. -/
structure Mk where
  takes : List Nat
  init : Hp
  R : Env → Hp → Prop
inductive Pl where
  | quiet (v : Value) (nd : List Nat) (I : Hp)
  | make (m : Mk)
def Pl.tk : Pl → Option (List Nat)
  | .quiet _ _ _ => none
  | .make m => some m.takes
def Pl.ini : Pl → Hp
  | .quiet _ _ _ => []
  | .make m => m.init
def Pl.nd : Pl → List Nat
  | .quiet _ nd _ => nd
  | .make _ => []
def iniAt (pl : List Pl) (j : Nat) : Hp := match pl[j]? with
  | some p => p.ini
  | none => []
/-- What a quiet operation reads of blocks that are taken later. -/
def NdOk (pl : List Pl) : List Pl → Prop
  | [] => True
  | .quiet _ nd I :: r => I = nd.flatMap (iniAt pl) ∧ NdOk pl r
  | .make _ :: r => NdOk pl r
def Got (pl : List Pl) : List Nat → List (Env × Hp) → Prop
  | [], [] => True
  | j :: js, x :: xs => (∃ m, pl[j]? = some (.make m) ∧ m.R x.1 x.2) ∧ Got pl js xs
  | _, _ => False
def hps (xs : List (Env × Hp)) : Hp := xs.flatMap (·.2)
def envs (xs : List (Env × Hp)) : Env := xs.flatMap (·.1)
def tkAt (tks : List (Option (List Nat))) (j : Nat) : List Nat := ((tks[j]?).getD none).getD []
def isMk (tks : List (Option (List Nat))) (j : Nat) : Bool := ((tks[j]?).getD none).isSome
def finals (tks : List (Option (List Nat))) : List Nat := (List.range tks.length).filter fun j => isMk tks j && !((List.range tks.length).any fun k => (tkAt tks k).contains j)
def ndAt (nds : List (List Nat)) (j : Nat) : List Nat := (nds[j]?).getD []
def okP (ops : Array Oper) (tks : List (Option (List Nat))) (nds : List (List Nat)) : Bool := Nat.beq tks.length ops.size && (List.range ops.size).all fun i => match ops[i]? with
  | some o => plainOp o.op && o.after.all (fun e => !Region.binds .any e || Nat.blt e.on i) &&
    (o.looksAt ops).all (fun x => (List.range ops.size).all fun j => match ops[j]? with
      | some p => p.dst != some x || ((o.after.any fun e => Region.binds .any e && e.on == j) || j == i || (Nat.blt i j && (ancs ops ops.size (edgesOf p)).contains i))
      | none => true) &&
    (List.range ops.size).all (fun j => j == i || match ops[j]? with
      | some p => p.dst.isNone || p.dst != o.dst
      | none => true) &&
    (tkAt tks i).all (fun j => (ancs ops ops.size (edgesOf o)).contains j && isMk tks j && Nat.blt j i) && (tkAt tks i).Nodup &&
    (List.range i).all (fun k => (tkAt tks k).all fun j => !(tkAt tks i).contains j) &&
    (ndAt nds i).all (fun j => isMk tks j && Nat.blt j ops.size && (match ops[j]? with
      | some q => (ancs ops ops.size (edgesOf q)).contains i
      | none => false)) && (ndAt nds i).Nodup
  | none => false
def EndsP (s : St) (M0 : Hp) (w1 : World) (Mall : Hp) (o : Oper) (R : Env → Hp → Prop) (inh : Env) : Exit → Act → World → Prop := fun e a w => e = .normal ∧ a.defers = s.dl ∧
  ∃ F B, At w1 (keys Mall) (B ++ M0) w ∧ R F B ∧ ∀ x u, lk F x = some u → (o.dst = some x ∧ a.tmps[x]? = some u) ∨ lk inh x = some u
abbrev bas (s : St) (w1 : World) (B : Hp) : St := { w0 := w1, A := keys B, n := s.n, ro := s.ro, dl := s.dl }
def StepP (P : Program) (ops : Array Oper) (s : St) (M0 : Hp) (o : Oper) (E : Env) (ahead : List Pl) : Pl → Prop
  | .quiet v _ I => ∃ d, o.dst = some d ∧ d < s.n ∧ ∀ w1, At s.w0 s.A (I ++ M0) w1 → L P ops (EndsQ (bas s w1 (I ++ M0)) d v (I ++ M0)) [o] (bas s w1 (I ++ M0)) E (I ++ M0)
  | .make m => (∀ d, o.dst = some d → d < s.n) ∧ ∀ xs, Got ahead m.takes xs → ∀ w1, At s.w0 s.A (hps xs ++ (m.init ++ M0)) w1 →
      L P ops (EndsP s M0 w1 (hps xs ++ (m.init ++ M0)) o m.R (envs xs)) [o] (bas s w1 (hps xs ++ (m.init ++ M0))) (envs xs ++ E) (hps xs ++ (m.init ++ M0))
def qE (o : Oper) (p : Pl) (E : Env) : Env := match p, o.dst with
  | .quiet v _ _, some d => (d, v) :: E
  | _, _ => E
/-- Those who read what is known ahead read it ahead of those who turn it. -/
def e3B (l : List Oper) (E : Env) : Bool := (List.range l.length).all fun i => match l[i]? with
  | some o => (o.looksAt l.toArray).all fun x => !(E.any fun y => Nat.beq y.1 x) || (List.range l.length).all fun j => match l[j]? with
    | some p => p.dst != some x || j == i || (Nat.blt i j && (ancs l.toArray l.length (edgesOf p)).contains i)
    | none => true
  | none => true
/-- What is known behind: no maker turns it. -/
def ncE (ops : Array Oper) (tks : List (Option (List Nat))) (E : Env) : Bool := (List.range ops.size).all fun j => !isMk tks j || E.all fun x => match (ops[j]?).bind (·.dst) with
  | some d => !(Nat.beq d x.1)
  | none => true
theorem lk_mem : ∀ {E : Env} {x : Nat} {v : Value}, lk E x = some v → ∃ y ∈ E, y.1 = x := by
  intro E
  induction E with
  | nil => intro x v h; cases h
  | cons y E ih =>
    obtain ⟨j, u⟩ := y
    intro x v h
    rcases lk_put h with ⟨rfl, rfl⟩ | ⟨_, h⟩
    · exact ⟨_, List.mem_cons_self, rfl⟩
    · obtain ⟨z, hz, e⟩ := ih h; exact ⟨z, List.mem_cons_of_mem _ hz, e⟩
theorem ncE_ok {ops : Array Oper} {tks : List (Option (List Nat))} {E : Env} (h : ncE ops tks E = true) {x : Nat} {v : Value} (hx : lk E x = some v) : ∀ (j : Nat) (o : Oper), ops[j]? = some o → isMk tks j = true → o.dst ≠ some x := by
  intro j o hj hm hd
  obtain ⟨y, hy, rfl⟩ := lk_mem hx
  have h1 := List.all_eq_true.1 h j (by simpa using (Array.getElem?_eq_some_iff.1 hj).1)
  rw [hm, Bool.not_true, Bool.false_or] at h1
  have h2 := List.all_eq_true.1 h1 y hy
  simp [hj, hd] at h2
def QP (P : Program) (ops : Array Oper) (Q : Exit → Act → World → Prop) (M0 : Hp) (s : St) (M : Hp) : List Oper → List Pl → Env → Prop
  | [], acc, E => ∃ tks nds E', acc.reverse.map Pl.tk = tks ∧ acc.reverse.map Pl.nd = nds ∧ NdOk acc.reverse acc.reverse ∧ okP ops tks nds = true ∧ M.Perm (acc.reverse.flatMap Pl.ini ++ M0) ∧ (∀ x v, lk E' x = some v → lk E x = some v ∧ ∀ (j : Nat) (o : Oper), ops[j]? = some o → isMk tks j = true → o.dst ≠ some x) ∧ ∀ xs, Got acc.reverse (finals tks) xs → D Q .normal s (envs xs ++ E') (hps xs ++ M0)
  | o :: rest, acc, E => ∃ p, StepP P ops s M0 o E acc.reverse p ∧ QP P ops Q M0 s M rest (p :: acc) (qE o p E)
def pEnv : List Oper → List Pl → Env → Env
  | o :: os, p :: ps, E => pEnv os ps (qE o p E)
  | _, _, E => E
section
variable {P : Program} {ops : Array Oper} {Q : Exit → Act → World → Prop} {s : St} {E : Env} {M M0 : Hp}
theorem QP.vals : ∀ {l : List Oper} {acc : List Pl} {E : Env}, QP P ops Q M0 s M l acc E → ∃ pl : List Pl, pl.length = l.length ∧
    (∃ tks nds E', (acc.reverse ++ pl).map Pl.tk = tks ∧ (acc.reverse ++ pl).map Pl.nd = nds ∧ NdOk (acc.reverse ++ pl) (acc.reverse ++ pl) ∧ okP ops tks nds = true ∧ M.Perm ((acc.reverse ++ pl).flatMap Pl.ini ++ M0) ∧ (∀ x v, lk E' x = some v → lk (pEnv l pl E) x = some v ∧ ∀ (j : Nat) (o : Oper), ops[j]? = some o → isMk tks j = true → o.dst ≠ some x) ∧ ∀ xs, Got (acc.reverse ++ pl) (finals tks) xs → D Q .normal s (envs xs ++ E') (hps xs ++ M0)) ∧
    ∀ (i : Nat) (o : Oper) (p : Pl), l[i]? = some o → pl[i]? = some p → StepP P ops s M0 o (pEnv (l.take i) (pl.take i) E) (acc.reverse ++ pl.take i) p
  | [], acc, E, h => ⟨[], rfl, by simpa [pEnv, QP] using h, fun i o p hi => by simp at hi⟩
  | o :: l, acc, E, ⟨p, h1, h2⟩ => by
    obtain ⟨pl, hl, hf, hs⟩ := QP.vals h2
    simp only [List.reverse_cons, List.append_assoc, List.singleton_append] at hf hs
    refine ⟨p :: pl, by simp [hl], by simpa [pEnv] using hf, ?_⟩
    intro i q r hi hr
    cases i with
    | zero => cases hi; cases hr; simpa [pEnv] using h1
    | succ i =>
      have := hs i q r (by simpa using hi) (by simpa using hr)
      simpa [pEnv] using this
theorem lk_app : ∀ {A B : Env} {x : Nat} {v : Value}, lk (A ++ B) x = some v → lk A x = some v ∨ ((∀ u, lk A x ≠ some u) ∧ lk B x = some v)
  | [], B, x, v, h => .inr ⟨fun u hu => (by cases hu), h⟩
  | (j, u) :: A, B, x, v, h => by
    rcases lk_put (E := A ++ B) h with ⟨rfl, rfl⟩ | ⟨hne, h⟩
    · left; unfold lk; rw [Nat.beq_refl]
    · have e : ∀ C : Env, lk ((j, u) :: C) x = lk C x := fun C => by
        conv => lhs; unfold lk
        cases hb : Nat.beq j x
        · rfl
        · exact absurd (Nat.eq_of_beq_eq_true hb).symm hne
      rw [e A]
      exact lk_app h
theorem lk_envs : ∀ {xs : List (Env × Hp)} {x : Nat} {v : Value}, lk (envs xs) x = some v → ∃ y ∈ xs, lk y.1 x = some v
  | [], _, _, h => by cases h
  | y :: xs, x, v, h => by
    rcases lk_app (A := y.1) (B := envs xs) (by simpa [envs] using h) with h | ⟨_, h⟩
    · exact ⟨y, List.mem_cons_self, h⟩
    · obtain ⟨z, hz, h⟩ := lk_envs h; exact ⟨z, List.mem_cons_of_mem _ hz, h⟩
theorem lk_pEnv : ∀ {os : List Oper} {ps : List Pl} {E : Env} {x : Nat} {v : Value}, os.length = ps.length → lk (pEnv os ps E) x = some v →
    (∃ (j : Nat) (o : Oper), os[j]? = some o ∧ o.dst = some x ∧ ∃ nd I, ps[j]? = some (.quiet v nd I)) ∨ ((∀ (j : Nat) (o : Oper) (u : Value) (nd : List Nat) (I : Hp), os[j]? = some o → ps[j]? = some (.quiet u nd I) → o.dst ≠ some x) ∧ lk E x = some v)
  | [], ps, E, x, v, _, h => by
    unfold pEnv at h
    exact .inr ⟨fun j o u nd I hj => by simp at hj, h⟩
  | o :: os, [], E, x, v, hl, h => by cases hl
  | o :: os, p :: ps, E, x, v, hl, h => by
    unfold pEnv at h
    rcases lk_pEnv (by simpa using hl) h with ⟨j, q, h1, h2, nd, I, h3⟩ | ⟨h1, h2⟩
    · exact .inl ⟨j + 1, q, by simpa using h1, h2, nd, I, by simpa using h3⟩
    · have hrest : ∀ (j : Nat) (q : Oper) (u : Value) (nd : List Nat) (I : Hp), (o :: os)[j + 1]? = some q → (p :: ps)[j + 1]? = some (.quiet u nd I) → q.dst ≠ some x := fun j q u nd I hj hu => h1 j q u nd I (by simpa using hj) (by simpa using hu)
      unfold qE at h2
      split at h2
      · rename_i u nd0 I0 d hod
        rcases lk_put h2 with ⟨rfl, rfl⟩ | ⟨hne, h2⟩
        · exact .inl ⟨0, o, rfl, hod, _, _, rfl⟩
        · refine .inr ⟨fun j q u' nd I hj hu => ?_, h2⟩
          cases j with
          | zero => cases hj; rw [hod]; exact fun e => hne (Option.some.inj e).symm
          | succ j => exact hrest j q u' nd I hj hu
      · rename_i hno
        refine .inr ⟨fun j q u' nd I hj hu => ?_, h2⟩
        cases j with
        | zero =>
          cases hj
          simp at hu
          subst hu
          intro e
          exact hno u' nd I x rfl e
        | succ j => exact hrest j q u' nd I hj hu
theorem got_map {pl : List Pl} {prod : Nat → Env × Hp} : ∀ (js : List Nat), (∀ j ∈ js, ∃ m, pl[j]? = some (.make m) ∧ m.R (prod j).1 (prod j).2) → Got pl js (js.map prod)
  | [], _ => trivial
  | j :: js, h => ⟨h j List.mem_cons_self, got_map js (fun k hk => h k (List.mem_cons_of_mem _ hk))⟩
theorem flat_if {p : Nat → Bool} {f : Nat → Hp} : ∀ (l : List Nat), l.flatMap (fun j => if p j = true then f j else []) = (l.filter p).flatMap f
  | [] => rfl
  | j :: l => by
    rw [List.flatMap_cons, flat_if l, List.filter_cons]
    cases hp : p j <;> simp
theorem flat_split {f : Nat → Hp} {n : Nat} {S : List Nat} (hS : S.Nodup) (hn : ∀ j ∈ S, j < n) : ((List.range n).flatMap f).Perm (((List.range n).filter (fun j => !S.contains j)).flatMap f ++ S.flatMap f) := by
  have h1 : (List.range n).Perm ((List.range n).filter (fun j => !S.contains j) ++ S) := by
    have h2 := (List.filter_append_perm (fun j => !S.contains j) (List.range n)).symm
    refine h2.trans (List.Perm.append_left _ ?_)
    refine (List.perm_ext_iff_of_nodup (List.nodup_range.filter _) hS).2 fun j => ?_
    simp only [Bool.not_not, List.mem_filter, List.mem_range, List.contains_iff_mem]
    exact ⟨fun h => h.2, fun h => ⟨hn j h, h⟩⟩
  refine (h1.flatMap_right f).trans ?_
  rw [List.flatMap_append]
theorem flat_congr {f g : Nat → Hp} : ∀ {l : List Nat}, (∀ j ∈ l, f j = g j) → l.flatMap f = l.flatMap g
  | [], _ => rfl
  | j :: l, h => by rw [List.flatMap_cons, List.flatMap_cons, h j List.mem_cons_self, flat_congr (fun k hk => h k (List.mem_cons_of_mem _ hk))]

def takesOf (pl : List Pl) (k : Nat) : List Nat := match pl[k]? with
  | some (.make m) => m.takes
  | _ => []
def usedB (pl : List Pl) (listed : Array Bool) (j : Nat) : Bool := (List.range pl.length).any fun k => listed.getD k true && (takesOf pl k).contains j
def cellP (pl : List Pl) (listed : Array Bool) (prod : Nat → Env × Hp) (j : Nat) : Hp := match pl[j]? with
  | some (.make m) => if listed.getD j true = true then (if usedB pl listed j = true then [] else (prod j).2) else m.init
  | _ => []
def heapP (pl : List Pl) (listed : Array Bool) (prod : Nat → Env × Hp) : Hp := (List.range pl.length).flatMap (cellP pl listed prod)
theorem tkAt_map (pl : List Pl) (j : Nat) : tkAt (pl.map Pl.tk) j = takesOf pl j := by
  unfold tkAt takesOf
  rw [List.getElem?_map]
  cases pl[j]? with
  | none => rfl
  | some p => cases p <;> rfl
theorem isMk_map (pl : List Pl) (j : Nat) : isMk (pl.map Pl.tk) j = true ↔ ∃ m, pl[j]? = some (.make m) := by
  unfold isMk
  rw [List.getElem?_map]
  cases pl[j]? with
  | none => simp
  | some p => cases p <;> simp [Pl.tk]
set_option maxHeartbeats 4000000 in
theorem QP.any {l : List Oper} {E0 : Env} (hE : ∀ i v, lk E0 i = some v → i < s.n) (hE2 : ∀ (i : Nat) (o : Oper), l[i]? = some o → ∀ x ∈ o.looksAt l.toArray, ∀ v, lk E0 x = some v → ∀ (j : Nat) (p : Oper), l[j]? = some p → p.dst = some x → j = i ∨ (i < j ∧ i ∈ ancs l.toArray l.length (edgesOf p))) (h : QP P l.toArray Q M0 s M l [] E0) : N P l.toArray Q l.length (Array.replicate l.length false) s E0 M := by
  obtain ⟨pl, hpl, ⟨tks, nds, E', htk, hnd, hndok, hok, hperm, hnc, hfin⟩, hstep⟩ := h.vals
  simp only [List.reverse_nil, List.nil_append] at htk hnd hndok hperm hfin hstep
  subst htk
  subst hnd
  have hlen : pl.length = l.length := hpl
  unfold okP at hok
  rw [Bool.and_eq_true] at hok
  have hok := hok.2
  have hq' : ∀ (i : Nat) (o : Oper), l[i]? = some o → plainOp o.op = true ∧ (∀ e ∈ o.after, Region.binds .any e = true → e.on < i) ∧
      (∀ x ∈ o.looksAt l.toArray, ∀ (j : Nat) (p : Oper), l[j]? = some p → p.dst = some x → (∃ e ∈ o.after, Region.binds .any e = true ∧ e.on = j) ∨ j = i ∨ i < j) ∧ (∀ (j : Nat) (p : Oper) (t : Nat), l[j]? = some p → j ≠ i → p.dst = some t → o.dst ≠ some t) ∧
      (∀ j ∈ takesOf pl i, j ∈ ancs l.toArray l.length (edgesOf o) ∧ (∃ m, pl[j]? = some (.make m)) ∧ j < i) ∧ (takesOf pl i).Nodup ∧ (∀ k, k < i → ∀ j ∈ takesOf pl k, j ∉ takesOf pl i) ∧
      (∀ j ∈ ndAt (pl.map Pl.nd) i, (∃ m, pl[j]? = some (.make m)) ∧ j < l.length ∧ ∃ q, l[j]? = some q ∧ i ∈ ancs l.toArray l.length (edgesOf q)) ∧ (ndAt (pl.map Pl.nd) i).Nodup := by
    intro i o hi
    have hlt : i < l.length := (List.getElem?_eq_some_iff.1 hi).1
    have h1 := List.all_eq_true.1 hok i (by simpa using hlt)
    simp only [List.getElem?_toArray, hi, Bool.and_eq_true, tkAt_map] at h1
    obtain ⟨⟨⟨⟨⟨⟨⟨⟨g1, g2⟩, g3⟩, g4⟩, g5⟩, g6⟩, g7⟩, g8⟩, g9⟩ := h1
    refine ⟨g1, fun e he hb => ?_, fun x hx j p hj hp => ?_, fun j p t hj hne hp => ?_, fun j hj => ?_, by simpa using g6, fun k hk j hj hji => ?_, fun j hj => ?_, by simpa using g9⟩
    · have := Array.all_eq_true'.1 g2 e he
      simpa [hb, Nat.blt_eq] using this
    · have h2 := List.all_eq_true.1 (List.all_eq_true.1 g3 x hx) j (by simpa using (List.getElem?_eq_some_iff.1 hj).1)
      simp only [hj, hp, bne_self_eq_false, Bool.false_or, Bool.or_eq_true] at h2
      rcases h2 with (h2 | h2) | h2
      · obtain ⟨e, he, hb⟩ := Array.any_eq_true'.1 h2
        simp only [Bool.and_eq_true, beq_iff_eq] at hb
        exact .inl ⟨e, he, hb.1, hb.2⟩
      · exact .inr (.inl (by simpa using h2))
      · rw [Bool.and_eq_true] at h2
        exact .inr (.inr (by simpa [Nat.blt_eq] using h2.1))
    · have h2 := List.all_eq_true.1 g4 j (by simpa using (List.getElem?_eq_some_iff.1 hj).1)
      simp only [hj, Bool.or_eq_true, beq_iff_eq, hne, false_or, bne_iff_ne, hp] at h2
      rcases h2 with h2 | h2
      · cases h2
      · exact fun e => h2 e.symm
    · have h2 := List.all_eq_true.1 g5 j hj
      simp only [Bool.and_eq_true, Nat.blt_eq, List.size_toArray, isMk_map] at h2
      exact ⟨by simpa using h2.1.1, h2.1.2, h2.2⟩
    · have h2 := List.all_eq_true.1 (List.all_eq_true.1 g7 k (by simpa using hk)) j (by simpa using hj)
      simp at h2
      exact h2 hji
    · have h2 := List.all_eq_true.1 g8 j hj
      simp only [Bool.and_eq_true, Nat.blt_eq, List.size_toArray, isMk_map] at h2
      refine ⟨h2.1.1, h2.1.2, l[j]'h2.1.2, List.getElem?_eq_getElem h2.1.2, ?_⟩
      have h3 := h2.2
      simp only [List.getElem?_toArray, List.getElem?_eq_getElem h2.1.2] at h3
      simpa using h3
  have hndI : ∀ (i : Nat) v nd I, pl[i]? = some (.quiet v nd I) → I = nd.flatMap (iniAt pl) ∧ nd = ndAt (pl.map Pl.nd) i := by
    intro i v nd I hi
    refine ⟨?_, ?_⟩
    · have : ∀ (q : List Pl) (i : Nat), NdOk pl q → q[i]? = some (.quiet v nd I) → I = nd.flatMap (iniAt pl) := by
        intro q
        induction q with
        | nil => intro i _ h; simp at h
        | cons a q ih =>
          intro i h hq
          cases i with
          | zero => simp at hq; subst hq; exact h.1
          | succ i =>
            cases a with
            | quiet _ _ _ => exact ih i h.2 (by simpa using hq)
            | make _ => exact ih i h (by simpa using hq)
      exact this pl i hndok hi
    · unfold ndAt; rw [List.getElem?_map, hi]; rfl
  have hval : ∀ (i : Nat) (o : Oper), l[i]? = some o → ∃ p, pl[i]? = some p := fun i o hi => by
    have hlt : i < pl.length := by rw [hpl]; exact (List.getElem?_eq_some_iff.1 hi).1
    exact ⟨pl[i], List.getElem?_eq_getElem hlt⟩
  have hop : ∀ (i : Nat) (p : Pl), pl[i]? = some p → ∃ o, l[i]? = some o := fun i p hi => by
    have hlt : i < l.length := by rw [← hpl]; exact (List.getElem?_eq_some_iff.1 hi).1
    exact ⟨l[i], List.getElem?_eq_getElem hlt⟩
  have hdlt : ∀ (i : Nat) (o : Oper) (t : Nat), l[i]? = some o → o.dst = some t → t < s.n := by
    intro i o t hi ht
    obtain ⟨p, hp⟩ := hval i o hi
    have := hstep i o p hi hp
    cases p with
    | quiet v nd I => obtain ⟨d, hd, hn, _⟩ := this; rw [hd] at ht; cases ht; exact hn
    | make m => exact this.1 t ht
  have main : ∀ (fuel : Nat) (listed : Array Bool) (a : Act) (w : World) (prod : Nat → Env × Hp), listed.size = l.length → (un l.length listed).length ≤ fuel →
      (∀ j o, l[j]? = some o → listed.getD j true = true → ∀ e ∈ o.after, Region.binds .any e = true → listed.getD e.on true = true) →
      At s.w0 s.A (heapP pl listed prod ++ M0) w → a.defers = s.dl → a.tmps.size = s.n →
      (∀ x v, lk E0 x = some v → (∀ (j : Nat) (o : Oper), l[j]? = some o → o.dst = some x → listed.getD j true = false) → a.tmps[x]? = some v) →
      (∀ (j : Nat) (o : Oper) (v : Value) (nd : List Nat) (I : Hp) (t : Nat), l[j]? = some o → pl[j]? = some (.quiet v nd I) → listed.getD j true = true → o.dst = some t → a.tmps[t]? = some v) →
      (∀ j m, pl[j]? = some (.make m) → listed.getD j true = true → m.R (prod j).1 (prod j).2 ∧ ∀ x u, lk (prod j).1 x = some u → a.tmps[x]? = some u ∧ ∃ k o, l[k]? = some o ∧ o.dst = some x ∧ listed.getD k true = true) →
      wpAnyIn (fen s.ro) 0 P .any l.toArray Q fuel listed a w := by
    intro fuel
    have fin : ∀ (listed : Array Bool) (a : Act) (w : World) (prod : Nat → Env × Hp), (∀ j, j < l.length → listed.getD j true = true) →
      At s.w0 s.A (heapP pl listed prod ++ M0) w → a.defers = s.dl → a.tmps.size = s.n →
      (∀ x v, lk E0 x = some v → (∀ (j : Nat) (o : Oper), l[j]? = some o → o.dst = some x → listed.getD j true = false) → a.tmps[x]? = some v) →
      (∀ (j : Nat) (o : Oper) (v : Value) (nd : List Nat) (I : Hp) (t : Nat), l[j]? = some o → pl[j]? = some (.quiet v nd I) → listed.getD j true = true → o.dst = some t → a.tmps[t]? = some v) →
      (∀ j m, pl[j]? = some (.make m) → listed.getD j true = true → m.R (prod j).1 (prod j).2 ∧ ∀ x u, lk (prod j).1 x = some u → a.tmps[x]? = some u ∧ ∃ k o, l[k]? = some o ∧ o.dst = some x ∧ listed.getD k true = true) → Q .normal a w := by
      intro listed a w prod hall hw hdl hsz hb hv hR
      have hfm : ∀ j ∈ finals (pl.map Pl.tk), ∃ m, pl[j]? = some (.make m) := fun j hj => by
        unfold finals at hj
        have := (List.mem_filter.1 hj).2
        rw [Bool.and_eq_true] at this
        exact (isMk_map pl j).1 this.1
      have hlj : ∀ j m, pl[j]? = some (.make m) → listed.getD j true = true := fun j m hj => hall j (by rw [← hpl]; exact (List.getElem?_eq_some_iff.1 hj).1)
      have hg : Got pl (finals (pl.map Pl.tk)) ((finals (pl.map Pl.tk)).map prod) := got_map _ (fun j hj => by
        obtain ⟨m, hm⟩ := hfm j hj
        exact ⟨m, hm, (hR j m hm (hlj j m hm)).1⟩)
      have hh : heapP pl listed prod = hps ((finals (pl.map Pl.tk)).map prod) := by
        have e : ∀ j ∈ List.range pl.length, cellP pl listed prod j = if (isMk (pl.map Pl.tk) j && !((List.range (pl.map Pl.tk).length).any fun k => (tkAt (pl.map Pl.tk) k).contains j)) = true then (prod j).2 else [] := by
          intro j hj
          have hjn : j < pl.length := by simpa using hj
          unfold cellP
          have hu : usedB pl listed j = (List.range (pl.map Pl.tk).length).any fun k => (tkAt (pl.map Pl.tk) k).contains j := by
            unfold usedB
            rw [List.length_map, Bool.eq_iff_iff, List.any_eq_true, List.any_eq_true]
            constructor
            · rintro ⟨k, hk, hc⟩
              rw [Bool.and_eq_true] at hc
              exact ⟨k, hk, by rw [tkAt_map]; exact hc.2⟩
            · rintro ⟨k, hk, hc⟩
              rw [tkAt_map] at hc
              exact ⟨k, hk, by rw [hall k (by rw [← hpl]; simpa using hk), hc]; rfl⟩
          cases hp : pl[j]? with
          | none => rw [List.getElem?_eq_none_iff] at hp; omega
          | some p =>
            cases p with
            | quiet v nd I =>
              have : isMk (pl.map Pl.tk) j = false := by
                cases hm : isMk (pl.map Pl.tk) j with
                | false => rfl
                | true => obtain ⟨m, hm⟩ := (isMk_map pl j).1 hm; rw [hp] at hm; cases hm
              simp [this]
            | make m =>
              have : isMk (pl.map Pl.tk) j = true := (isMk_map pl j).2 ⟨m, hp⟩
              simp only [hall j (by omega), if_true, this, Bool.true_and, ← hu]
              cases usedB pl listed j <;> simp
        unfold heapP
        rw [flat_congr e, flat_if]
        unfold finals hps
        rw [List.flatMap_map, List.length_map]
      refine hfin _ hg a w ⟨hh ▸ hw, hdl, hsz, fun x v hx => ?_⟩
      rcases lk_app hx with hx | ⟨_, hx⟩
      · obtain ⟨y, hy, hx⟩ := lk_envs hx
        obtain ⟨j, hj, rfl⟩ := List.mem_map.1 hy
        obtain ⟨m, hm⟩ := hfm j hj
        exact ((hR j m hm (hlj j m hm)).2 x v hx).1
      · obtain ⟨hx, hnm⟩ := hnc x v hx
        rcases lk_pEnv hpl.symm hx with ⟨j, o, h1, h2, nd, I, h3⟩ | ⟨h1, h2⟩
        · exact hv j o v nd I x h1 h3 (hall j (List.getElem?_eq_some_iff.1 h1).1) h2
        · refine hb x v h2 (fun j o hj hd => ?_)
          exfalso
          obtain ⟨p, hp⟩ := hval j o hj
          cases p with
          | quiet u nd I => exact h1 j o u nd I hj hp hd
          | make m => exact hnm j o (by simpa using hj) ((isMk_map pl j).2 ⟨m, hp⟩) hd
    have hready : ∀ (listed : Array Bool), listed.size = l.length → Region.ready .any l.toArray listed = [] → ∀ j, j < l.length → listed.getD j true = true := by
      intro listed hsz hr j
      induction j using Nat.strongRecOn with
      | _ j ih =>
        intro hj
        cases hl : listed.getD j true with
        | true => rfl
        | false =>
          exfalso
          have ho : l[j]? = some l[j] := List.getElem?_eq_getElem hj
          have : j ∈ Region.ready .any l.toArray listed := by
            unfold Region.ready
            refine List.mem_filter.2 ⟨by simpa using hj, ?_⟩
            simp only [hl, List.getElem?_toArray, ho, Option.map_some, Option.getD_some, Bool.not_false, Bool.true_and]
            refine Array.all_eq_true'.2 fun e he => ?_
            cases hb : Region.binds .any e with
            | false => rfl
            | true =>
              have hlt := (hq' j _ ho).2.1 e he hb
              have h2 := ih e.on hlt (by omega)
              rw [Array.getD_eq_getD_getElem?] at h2 ⊢
              rw [Array.getElem?_eq_getElem (by omega)] at h2 ⊢
              simpa using h2
          rw [hr] at this; cases this
    induction fuel with
    | zero =>
      intro listed a w prod hsz hun hcl hw hdl hts hb hv hR
      have hall : ∀ j, j < l.length → listed.getD j true = true := by
        intro j hj
        cases hl : listed.getD j true with
        | true => rfl
        | false =>
          have : j ∈ un l.length listed := List.mem_filter.2 ⟨List.mem_range.2 hj, by rw [hl]; rfl⟩
          have := List.length_pos_of_mem this
          omega
      refine ⟨?_, fin listed a w prod hall hw hdl hts hb hv hR⟩
      unfold Region.ready
      refine List.filter_eq_nil_iff.2 fun j hj => ?_
      rw [hall j (by simpa using hj)]; simp
    | succ fuel ih =>
      intro listed a w prod hsz hun hcl hw hdl hts hb hv hR
      refine ⟨fun hr => fin listed a w prod (hready listed hsz hr) hw hdl hts hb hv hR, fun i hi => ?_⟩
      unfold Region.ready at hi
      obtain ⟨hir, hi⟩ := List.mem_filter.1 hi
      have hlt : i < l.length := by simpa using hir
      have ho : l[i]? = some l[i] := List.getElem?_eq_getElem hlt
      obtain ⟨o, hoe⟩ : ∃ (o : Oper), o = l[i] := ⟨_, rfl⟩
      rw [← hoe] at ho
      simp only [List.getElem?_toArray, ho, Option.map_some, Option.getD_some, Bool.and_eq_true, Bool.not_eq_true'] at hi
      obtain ⟨hun_i, hafter⟩ := hi
      obtain ⟨p, hpi⟩ := hval i o ho
      have hL := hstep i o p ho hpi
      obtain ⟨q1, q2, q3, q4, q5, q6, q7, q8, q9⟩ := hq' i o ho
      have hdeps : ∀ e ∈ o.after, Region.binds .any e = true → listed.getD e.on true = true := by
        intro e he hbd
        have := Array.all_eq_true'.1 hafter e he
        simp only [hbd, Bool.not_true, Bool.false_or] at this
        have hlt2 := q2 e he hbd
        rw [Array.getD_eq_getD_getElem?] at this ⊢
        rw [Array.getElem?_eq_getElem (by omega)] at this ⊢
        simpa using this
      have hancs : ∀ (o' : Oper), (∀ e ∈ o'.after, Region.binds .any e = true → listed.getD e.on true = true) → ∀ x ∈ ancs l.toArray l.length (edgesOf o'), listed.getD x true = true := by
        intro o' h'
        refine ancs_all (fun j p hj hp x hx => ?_) _ _ (fun x hx => ?_)
        · unfold edgesOf at hx
          obtain ⟨e, he, rfl⟩ := List.mem_map.1 hx
          obtain ⟨he, hbd⟩ := List.mem_filter.1 he
          exact hcl j p (by simpa using hj) hp e (by simpa using he) hbd
        · unfold edgesOf at hx
          obtain ⟨e, he, rfl⟩ := List.mem_map.1 hx
          obtain ⟨he, hbd⟩ := List.mem_filter.1 he
          exact h' e (by simpa using he) hbd
      have hset : ∀ j, (listed.setIfInBounds i true).getD j true = true ↔ listed.getD j true = true ∨ j = i := by
        intro j
        rw [Array.getD_eq_getD_getElem?, Array.getD_eq_getD_getElem?]
        by_cases hj : j = i
        · subst hj
          rw [Array.getElem?_setIfInBounds_self_of_lt (by omega)]; simp
        · rw [Array.getElem?_setIfInBounds_ne (fun e => hj e.symm)]; simp [hj]
      have hsetne : ∀ j, j ≠ i → (listed.setIfInBounds i true).getD j true = listed.getD j true := by
        intro j hj
        rw [Array.getD_eq_getD_getElem?, Array.getD_eq_getD_getElem?, Array.getElem?_setIfInBounds_ne (fun e => hj e.symm)]
      -- what was taken over by a listed operation is listed
      have htl : ∀ k, listed.getD k true = true → ∀ j ∈ takesOf pl k, listed.getD j true = true := by
        intro k hk j hj
        have hkn : k < pl.length := by
          rcases Nat.lt_or_ge k pl.length with h | h
          · exact h
          · unfold takesOf at hj; rw [List.getElem?_eq_none h] at hj; cases hj
        obtain ⟨o', ho'⟩ := hop k _ (List.getElem?_eq_getElem hkn)
        exact hancs o' (hcl k o' ho' hk) j ((hq' k o' ho').2.2.2.2.1 j hj).1
      have hn : pl.length = l.length := hpl
      obtain ⟨Ei, hEi⟩ : ∃ Ei, Ei = pEnv (l.take i) (pl.take i) E0 := ⟨_, rfl⟩
      rw [← hEi] at hL
      have htkl : (l.take i).length = (pl.take i).length := by rw [List.length_take, List.length_take, hpl]
      have hcase : ∀ x u, lk Ei x = some u → (∃ j p, j < i ∧ l[j]? = some p ∧ p.dst = some x ∧ ∃ nd I, pl[j]? = some (.quiet u nd I)) ∨ lk E0 x = some u := by
        intro x u hx
        rw [hEi] at hx
        rcases lk_pEnv htkl hx with ⟨j, p, h1, h2, nd, I, h3⟩ | ⟨h1, h2⟩
        · rw [List.getElem?_take] at h1 h3
          split at h1
          · rename_i hji
            rw [if_pos hji] at h3
            exact .inl ⟨j, p, hji, h1, h2, nd, I, h3⟩
          · cases h1
        · exact .inr h2
      -- the frame of a step, for any slots that hold
      have step : ∀ (X : Exit → Act → World → Prop) (En : Env) (st : St) (B : Hp), st.n = s.n → st.dl = s.dl → st.ro = s.ro → (∀ x u, lk En x = some u → a.tmps[x]? = some u ∨ lk Ei x = some u) → At st.w0 st.A B w →
          L P l.toArray X [o] st (En ++ Ei) B → (∀ e a w, X e a w → e = .normal ∧ a.defers = s.dl) → (∀ (a' : Act) (u : Value) (w' : World), a'.tmps.size = s.n → X .normal (a'.put o.dst u) w' → wpAnyIn (fen s.ro) 0 P .any l.toArray Q fuel (listed.setIfInBounds i true) (a.put o.dst u) w') →
          wpOpIn (fen s.ro) 0 P l.toArray Q i (wpAnyIn (fen s.ro) 0 P .any l.toArray Q fuel (listed.setIfInBounds i true)) a w := by
        intro X En st B hn1 hd1 hr1 hEn hat hLX hX hK
        have hlt_of : ∀ x u, lk (En ++ Ei) x = some u → x < s.n := by
          intro x u hx
          rcases lk_app hx with hx | ⟨_, hx⟩
          · rcases hEn x u hx with h1 | h1
            · have := (Array.getElem?_eq_some_iff.1 h1).1; omega
            · rcases hcase x u h1 with ⟨j, p, _, h1, h2, _⟩ | h1
              · exact hdlt j p x h1 h2
              · exact hE x u h1
          · rcases hcase x u hx with ⟨j, p, _, h1, h2, _⟩ | h1
            · exact hdlt j p x h1 h2
            · exact hE x u h1
        obtain ⟨a', ha'⟩ : ∃ a' : Act, a' = { a with tmps := Array.ofFn (n := s.n) fun k => (lk (En ++ Ei) k.1).getD (a.tmps.getD k.1 undef) } := ⟨_, rfl⟩
        have ht' : ∀ x, x < s.n → a'.tmps[x]? = some ((lk (En ++ Ei) x).getD (a.tmps.getD x undef)) := by
          intro x hx
          rw [ha']
          simp [hx]
        have hsz' : a'.tmps.size = s.n := by rw [ha']; simp
        have hdl' : a'.defers = s.dl := by rw [ha']; exact hdl
        have hsat : Sat st (En ++ Ei) B a' w := ⟨hat, by rw [hd1]; exact hdl', by rw [hn1]; exact hsz', fun x u hx => by rw [ht' x (hlt_of x u hx), hx]; rfl⟩
        have hfromEi : ∀ x u, x ∈ o.looksAt l.toArray → lk Ei x = some u → a.tmps[x]? = some u := by
          intro x u hx hl
          rcases hcase x u hl with ⟨j, p, h0, h1, h2, nd, I, h3⟩ | h2
          · rcases q3 x hx j p h1 h2 with ⟨ed, hed, hbd, rfl⟩ | h4 | h4
            · exact hv ed.on p u nd I x h1 h3 (hdeps ed hed hbd) h2
            · omega
            · omega
          · refine hb x u h2 (fun j p hj hd => ?_)
            rcases hE2 i o ho x hx u h2 j p hj hd with rfl | ⟨_, h4⟩
            · exact hun_i
            · cases hlj : listed.getD j true with
              | false => rfl
              | true =>
                exfalso
                have := hancs p (hcl j p hj hlj) i h4
                rw [this] at hun_i; cases hun_i
        have hsame : ∀ x ∈ o.looksAt l.toArray, a.tmps[x]? = a'.tmps[x]? := by
          intro x hx
          rcases Nat.lt_or_ge x s.n with hxn | hxn
          · rw [ht' x hxn]
            cases hl : lk (En ++ Ei) x with
            | none =>
              rw [Array.getD_eq_getD_getElem?, Array.getElem?_eq_getElem (by omega)]; rfl
            | some u =>
              rcases lk_app hl with hl | ⟨_, hl⟩
              · rcases hEn x u hl with h1 | h1
                · exact h1
                · exact hfromEi x u hx h1
              · exact hfromEi x u hx hl
          · rw [Array.getElem?_eq_none (by omega), Array.getElem?_eq_none (by omega)]
        have hwp := hLX a' w hsat
        rw [hr1] at hwp
        exact wpOp_likeW (X := X) (dl := s.dl) hX (by simpa using ho) q1 hdl' hsame hwp (fun u w' hx => hK a' u w' hsz' hx)
      have keepT : ∀ (u : Value) x (v : Value), a.tmps[x]? = some v → o.dst ≠ some x → (a.put o.dst u).tmps[x]? = some v := by
        intro u x v hx hne
        cases hod : o.dst with
        | none => exact hx
        | some t =>
          simp only [Act.put]
          rw [Array.getElem?_setIfInBounds_ne (fun e => hne (by rw [hod, e]))]; exact hx
      have hcl' : ∀ j p, l[j]? = some p → (listed.setIfInBounds i true).getD j true = true → ∀ e ∈ p.after, Region.binds .any e = true → (listed.setIfInBounds i true).getD e.on true = true := by
        intro j p hj hlj e he hbd
        rw [hset] at hlj ⊢
        rcases hlj with hlj | rfl
        · exact .inl (hcl j p hj hlj e he hbd)
        · rw [ho] at hj; cases hj; exact .inl (hdeps e he hbd)
      have hbT : ∀ (u : Value) x v, lk E0 x = some v → (∀ (j : Nat) (q : Oper), l[j]? = some q → q.dst = some x → (listed.setIfInBounds i true).getD j true = false) → (a.put o.dst u).tmps[x]? = some v := fun u x v hx hnx => keepT u x v (hb x v hx (fun j q hj hd => by
        have h4 := hnx j q hj hd
        cases hlj : listed.getD j true with
        | false => rfl
        | true => rw [(hset j).2 (.inl hlj)] at h4; cases h4)) (fun hd => by
        have h4 := hnx i o ho hd
        rw [(hset i).2 (.inr rfl)] at h4; cases h4)
      have hszT : ∀ u : Value, (a.put o.dst u).tmps.size = s.n := fun u => by cases hod : o.dst <;> simpa [Act.put] using hts
      have hdlT : ∀ u : Value, (a.put o.dst u).defers = s.dl := fun u => by cases o.dst <;> exact hdl
      have hRT : ∀ (u : Value) j m, j ≠ i → pl[j]? = some (.make m) → listed.getD j true = true → m.R (prod j).1 (prod j).2 ∧ ∀ x v, lk (prod j).1 x = some v → (a.put o.dst u).tmps[x]? = some v ∧ ∃ k q, l[k]? = some q ∧ q.dst = some x ∧ (listed.setIfInBounds i true).getD k true = true := by
        intro u j m hji hm hlj
        obtain ⟨h1, h2⟩ := hR j m hm hlj
        refine ⟨h1, fun x v hx => ?_⟩
        obtain ⟨h3, k, q, h4, h5, h6⟩ := h2 x v hx
        have hki : k ≠ i := fun e => by rw [e, hun_i] at h6; cases h6
        exact ⟨keepT u x v h3 (q4 k q x h4 hki h5), k, q, h4, h5, by rw [hset]; exact .inl h6⟩
      cases p with
      | quiet v nd I =>
        obtain ⟨d, hd, hdn, hlaw⟩ := hL
        obtain ⟨hI, hndE⟩ := hndI i v nd I hpi
        rw [← hndE] at q8 q9
        have hndu : ∀ j ∈ nd, listed.getD j true = false := by
          intro j hj
          obtain ⟨_, _, q, hq, han⟩ := q8 j hj
          cases hlj : listed.getD j true with
          | false => rfl
          | true =>
            have := hancs q (hcl j q hq hlj) i han
            rw [hun_i] at this; cases this
        have hcell_n : ∀ j ∈ nd, cellP pl listed prod j = iniAt pl j := by
          intro j hj
          obtain ⟨⟨m, hm⟩, _⟩ := q8 j hj
          unfold cellP iniAt; rw [hm]; simp only [hndu j hj, Bool.false_eq_true, if_false]; rfl
        obtain ⟨rest, hrest⟩ : ∃ rest, rest = ((List.range pl.length).filter (fun j => !nd.contains j)).flatMap (cellP pl listed prod) := ⟨_, rfl⟩
        have hperm0 : (heapP pl listed prod).Perm (rest ++ I) := by
          have := flat_split (f := cellP pl listed prod) (n := pl.length) (S := nd) q9 (fun j hj => by have := (q8 j hj).2.1; omega)
          rw [flat_congr hcell_n, ← hI, ← hrest] at this; exact this
        have hw1 : At s.w0 s.A (rest ++ (I ++ M0)) w := by
          refine hw.perm ?_
          have := (hperm0.append_right M0).symm
          simpa [List.append_assoc] using this
        have hM0 : At s.w0 s.A (I ++ M0) w := by have := hw1.drop rest.length; rwa [List.drop_left] at this
        have hcellq : heapP pl (listed.setIfInBounds i true) prod = heapP pl listed prod := by
          unfold heapP
          refine flat_congr fun j hj => ?_
          by_cases hji : j = i
          · subst hji; unfold cellP; rw [hpi]
          · have hu : usedB pl (listed.setIfInBounds i true) j = usedB pl listed j := by
              unfold usedB
              rw [Bool.eq_iff_iff, List.any_eq_true, List.any_eq_true]
              have hti : takesOf pl i = [] := by unfold takesOf; rw [hpi]
              constructor
              · rintro ⟨k, hk, hc⟩
                rw [Bool.and_eq_true, hset] at hc
                rcases hc.1 with h1 | h1
                · exact ⟨k, hk, by rw [h1, hc.2]; rfl⟩
                · subst h1; rw [hti] at hc; simp at hc
              · rintro ⟨k, hk, hc⟩
                rw [Bool.and_eq_true] at hc
                exact ⟨k, hk, by rw [Bool.and_eq_true, hset]; exact ⟨.inl hc.1, hc.2⟩⟩
            unfold cellP
            rw [hsetne j hji, hu]
        refine step (EndsQ (bas s w (I ++ M0)) d v (I ++ M0)) [] (bas s w (I ++ M0)) (I ++ M0) rfl rfl rfl (fun x u hx => by cases hx) (At.own hM0.nodup hM0.holds) (by simpa using hlaw w hM0) (fun e a w hx => ⟨hx.1, hx.2.2.1⟩) (fun a' u w' hsz' hx => ?_)
        obtain ⟨_, hx2, _, hx4⟩ := hx
        have hu : u = v := by
          rw [hd] at hx2
          simp only [Act.put, Array.getElem?_setIfInBounds_self_of_lt (show d < a'.tmps.size by rw [hsz']; exact hdn)] at hx2
          exact Option.some.inj hx2
        subst hu
        refine ih _ _ _ prod (by simpa using hsz) (by have := un_set hlt hsz hun_i; omega) hcl' (by
          rw [hcellq]
          have h2 := hw1.tail hx4
          refine h2.perm ?_
          have := hperm0.append_right M0
          simpa [List.append_assoc] using this) (hdlT u) (hszT u) (hbT u) (fun j q v' nd' I' t hj hq hlj ht => ?_) (fun j m hm hlj => ?_)
        · rw [hset] at hlj
          by_cases hji : j = i
          · subst hji
            rw [ho] at hj; cases hj
            rw [hpi] at hq; cases hq
            rw [ht]
            simp only [Act.put]
            rw [Array.getElem?_setIfInBounds_self_of_lt (by rw [hts]; exact hdlt j o t ho ht)]
          · exact keepT u t v' (hv j q v' nd' I' t hj hq (hlj.resolve_right hji) ht) (q4 j q t hj hji ht)
        · have hji : j ≠ i := fun e => by rw [e, hpi] at hm; cases hm
          exact hRT u j m hji hm (by rw [hsetne j hji] at hlj; exact hlj)
      | make m =>
        obtain ⟨hdn, hlaw⟩ := hL
        have hti : takesOf pl i = m.takes := by unfold takesOf; rw [hpi]
        rw [hti] at q5 q6 q7
        have hlt_ts : ∀ j ∈ m.takes, listed.getD j true = true := fun j hj => hancs o hdeps j (q5 j hj).1
        have hgot : Got (pl.take i) m.takes (m.takes.map prod) := got_map _ (fun j hj => by
          obtain ⟨_, ⟨mj, hmj⟩, hji⟩ := q5 j hj
          exact ⟨mj, by rw [List.getElem?_take, if_pos hji]; exact hmj, (hR j mj hmj (hlt_ts j hj)).1⟩)
        obtain ⟨S, hS⟩ : ∃ S, S = m.takes ++ [i] := ⟨_, rfl⟩
        have hSn : S.Nodup := by
          rw [hS, List.nodup_append]
          exact ⟨q6, by simp, fun x hx y hy e => by have := (q5 x hx).2.2; simp at hy; omega⟩
        have hSl : ∀ j ∈ S, j < pl.length := by
          intro j hj
          rw [hS] at hj
          rcases List.mem_append.1 hj with h | h
          · have := (q5 j h).2.2; omega
          · simp at h; omega
        have hnotused : ∀ j ∈ m.takes, usedB pl listed j = false := by
          intro j hj
          cases hu : usedB pl listed j with
          | false => rfl
          | true =>
            exfalso
            unfold usedB at hu
            obtain ⟨k, hk, hc⟩ := List.any_eq_true.1 hu
            rw [Bool.and_eq_true] at hc
            have hkj : j ∈ takesOf pl k := by simpa using hc.2
            have hki : k ≠ i := fun e => by rw [e, hun_i] at hc; cases hc.1
            rcases Nat.lt_or_ge k i with h | h
            · exact q7 k h j hkj hj
            · obtain ⟨o', ho'⟩ := hop k _ (List.getElem?_eq_getElem (show k < pl.length by simpa using hk))
              exact (hq' k o' ho').2.2.2.2.2.2.1 i (by omega) j (by rw [hti]; exact hj) hkj
        have hcell_t : ∀ j ∈ m.takes, cellP pl listed prod j = (prod j).2 := by
          intro j hj
          obtain ⟨_, ⟨mj, hmj⟩, _⟩ := q5 j hj
          unfold cellP; rw [hmj]; simp only [hlt_ts j hj, if_true, hnotused j hj, Bool.false_eq_true, if_false]
        have hcell_i : cellP pl listed prod i = m.init := by
          unfold cellP; rw [hpi]; simp only [hun_i, Bool.false_eq_true, if_false]
        obtain ⟨rest, hrest⟩ : ∃ rest, rest = ((List.range pl.length).filter (fun j => !S.contains j)).flatMap (cellP pl listed prod) := ⟨_, rfl⟩
        have hSf : S.flatMap (cellP pl listed prod) = hps (m.takes.map prod) ++ m.init := by
          rw [hS, List.flatMap_append, flat_congr hcell_t]
          simp only [List.flatMap_cons, List.flatMap_nil, List.append_nil, hcell_i]
          unfold hps; rw [List.flatMap_map]
        have hperm1 : (heapP pl listed prod).Perm (rest ++ (hps (m.takes.map prod) ++ m.init)) := by
          have := flat_split (f := cellP pl listed prod) hSn hSl
          rw [hSf, ← hrest] at this; exact this
        have hw1 : At s.w0 s.A (rest ++ (hps (m.takes.map prod) ++ (m.init ++ M0))) w := by
          refine hw.perm ?_
          have := (hperm1.append_right M0).symm
          simpa [List.append_assoc] using this
        have hwA : At s.w0 s.A (hps (m.takes.map prod) ++ (m.init ++ M0)) w := by have := hw1.drop rest.length; rwa [List.drop_left] at this
        have hlw := hlaw _ hgot w hwA
        refine step _ (envs (m.takes.map prod)) (bas s w (hps (m.takes.map prod) ++ (m.init ++ M0))) _ rfl rfl rfl (fun x u hx => ?_) (At.own hwA.nodup hwA.holds) hlw (fun e a w hx => ⟨hx.1, hx.2.1⟩) (fun a' u w' hsz' hx => ?_)
        · obtain ⟨y, hy, hx⟩ := lk_envs hx
          obtain ⟨j, hj, rfl⟩ := List.mem_map.1 hy
          obtain ⟨_, ⟨mj, hmj⟩, _⟩ := q5 j hj
          exact .inl ((hR j mj hmj (hlt_ts j hj)).2 x u hx).1
        · obtain ⟨_, _, F, B, hx4, hx5, hx6⟩ := hx
          have hw2 := hw1.tail hx4
          obtain ⟨prod', hprod'⟩ : ∃ prod' : Nat → Env × Hp, prod' = fun j => if j = i then (F, B) else prod j := ⟨_, rfl⟩
          have hpi' : prod' i = (F, B) := by rw [hprod']; simp
          have hpj' : ∀ j, j ≠ i → prod' j = prod j := fun j hj => by rw [hprod']; simp [hj]
          have hused_i : usedB pl (listed.setIfInBounds i true) i = false := by
            cases hu : usedB pl (listed.setIfInBounds i true) i with
            | false => rfl
            | true =>
              exfalso
              unfold usedB at hu
              obtain ⟨k, hk, hc⟩ := List.any_eq_true.1 hu
              rw [Bool.and_eq_true, hset] at hc
              have hki : i ∈ takesOf pl k := by simpa using hc.2
              rcases hc.1 with h | h
              · have := htl k h i hki
                rw [hun_i] at this; cases this
              · subst h
                rw [hti] at hki
                have := (q5 k hki).2.2; omega
          have hused_t : ∀ j ∈ m.takes, usedB pl (listed.setIfInBounds i true) j = true := by
            intro j hj
            unfold usedB
            refine List.any_eq_true.2 ⟨i, by simpa using (show i < pl.length by omega), ?_⟩
            rw [Bool.and_eq_true, hset]
            exact ⟨.inr rfl, by rw [hti]; simpa using hj⟩
          have hcell' : ∀ j ∈ (List.range pl.length).filter (fun j => !S.contains j), cellP pl (listed.setIfInBounds i true) prod' j = cellP pl listed prod j := by
            intro j hj
            have hjS : j ∉ S := by have := (List.mem_filter.1 hj).2; simpa using this
            have hji : j ≠ i := fun e => hjS (by rw [hS, e]; simp)
            have hjt : j ∉ m.takes := fun h => hjS (by rw [hS]; exact List.mem_append_left _ h)
            have hu : usedB pl (listed.setIfInBounds i true) j = usedB pl listed j := by
              unfold usedB
              rw [Bool.eq_iff_iff, List.any_eq_true, List.any_eq_true]
              constructor
              · rintro ⟨k, hk, hc⟩
                rw [Bool.and_eq_true, hset] at hc
                rcases hc.1 with h1 | h1
                · exact ⟨k, hk, by rw [h1, hc.2]; rfl⟩
                · subst h1; rw [hti] at hc; exact absurd (by simpa using hc.2) hjt
              · rintro ⟨k, hk, hc⟩
                rw [Bool.and_eq_true] at hc
                exact ⟨k, hk, by rw [Bool.and_eq_true, hset]; exact ⟨.inl hc.1, hc.2⟩⟩
            unfold cellP
            rw [hsetne j hji, hu, hpj' j hji]
          have hSf' : S.flatMap (cellP pl (listed.setIfInBounds i true) prod') = B := by
            rw [hS, List.flatMap_append]
            have h1 : m.takes.flatMap (cellP pl (listed.setIfInBounds i true) prod') = [] := by
              rw [flat_congr (g := fun _ => []) (fun j hj => ?_)]
              · simp
              · obtain ⟨_, ⟨mj, hmj⟩, hji⟩ := q5 j hj
                unfold cellP; rw [hmj]
                simp only [hsetne j (by omega), hlt_ts j hj, if_true, hused_t j hj]
            rw [h1]
            simp only [List.flatMap_cons, List.flatMap_nil, List.append_nil, List.nil_append]
            unfold cellP; rw [hpi]
            simp only [(hset i).2 (.inr rfl), if_true, hused_i, Bool.false_eq_true, if_false, hpi']
          have hperm2 : (heapP pl (listed.setIfInBounds i true) prod').Perm (rest ++ B) := by
            have := flat_split (f := cellP pl (listed.setIfInBounds i true) prod') hSn hSl
            rw [hSf', flat_congr hcell', ← hrest] at this; exact this
          refine ih _ _ _ prod' (by simpa using hsz) (by have := un_set hlt hsz hun_i; omega) hcl' (hw2.perm ?_) (hdlT u) (hszT u) (hbT u) (fun j q v' nd' I' t hj hq hlj ht => ?_) (fun j mj hm hlj => ?_)
          · have := hperm2.append_right M0
            simpa [List.append_assoc] using this
          · have hji : j ≠ i := fun e => by rw [e, hpi] at hq; cases hq
            rw [hsetne j hji] at hlj
            exact keepT u t v' (hv j q v' nd' I' t hj hq hlj ht) (q4 j q t hj hji ht)
          · by_cases hji : j = i
            · subst hji
              rw [hpi] at hm; cases hm
              rw [hpi']
              refine ⟨hx5, fun x v hx => ?_⟩
              rcases hx6 x v hx with ⟨h1, h2⟩ | h1
              · refine ⟨?_, j, o, ho, h1, (hset j).2 (.inr rfl)⟩
                rw [h1] at h2 ⊢
                have hxn : x < s.n := hdn x h1
                simp only [Act.put, Array.getElem?_setIfInBounds_self_of_lt (show x < a'.tmps.size by rw [hsz']; exact hxn)] at h2
                simp only [Act.put, Array.getElem?_setIfInBounds_self_of_lt (show x < a.tmps.size by rw [hts]; exact hxn)]
                exact h2
              · obtain ⟨y, hy, h1⟩ := lk_envs h1
                obtain ⟨k, hk, rfl⟩ := List.mem_map.1 hy
                obtain ⟨_, ⟨mk, hmk⟩, hkj⟩ := q5 k hk
                obtain ⟨g1, k2, q2', g2, g3, g4⟩ := (hR k mk hmk (hlt_ts k hk)).2 x v h1
                have hk2 : k2 ≠ j := fun e => by rw [e, hun_i] at g4; cases g4
                exact ⟨keepT u x v g1 (q4 k2 q2' x g2 hk2 g3), k2, q2', g2, g3, by rw [hset]; exact .inl g4⟩
            · rw [hpj' j hji]
              exact hRT u j mj hji hm (by rw [hsetne j hji] at hlj; exact hlj)
  intro a w hs
  refine main l.length _ a w (fun _ => ([], [])) (by simp) (by unfold un; exact Nat.le_trans (List.length_filter_le _ _) (by simp)) (fun j o hj hlj => ?_) ?_ hs.defers hs.size (fun x v hx _ => hs.env x v hx) (fun j o v nd I t hj hv hl ht => ?_) (fun j m hm hl => ?_)
  · have hlt : j < l.length := (List.getElem?_eq_some_iff.1 hj).1
    simp [hlt] at hlj
  · have e : heapP pl (Array.replicate l.length false) (fun _ => ([], [])) = pl.flatMap Pl.ini := by
      unfold heapP
      have h1 : ∀ j ∈ List.range pl.length, cellP pl (Array.replicate l.length false) (fun _ => ([], [])) j = (match pl[j]? with | some p => p.ini | none => []) := by
        intro j hj
        have hjn : j < l.length := by rw [← hpl]; simpa using hj
        unfold cellP
        cases hp : pl[j]? with
        | none => rfl
        | some p =>
          cases p with
          | quiet v nd I => rfl
          | make m => simp [hjn, Pl.ini]
      rw [flat_congr h1]
      have : ∀ q : List Pl, (List.range q.length).flatMap (fun j => match q[j]? with | some p => p.ini | none => []) = q.flatMap Pl.ini := by
        intro q
        induction q with
        | nil => rfl
        | cons a q ih =>
          rw [List.length_cons, List.range_succ_eq_map, List.flatMap_cons, List.flatMap_map, List.flatMap_cons]
          simp only [List.getElem?_cons_zero, List.getElem?_cons_succ]
          rw [ih]
      exact this pl
    rw [e]
    exact hs.at_.perm hperm.symm
  · have hlt : j < l.length := (List.getElem?_eq_some_iff.1 hj).1
    simp [hlt] at hl
  · have hlt : j < l.length := by rw [← hpl]; exact (List.getElem?_eq_some_iff.1 hm).1
    simp [hlt] at hl
end
section
variable {P : Program} {ops : Array Oper} {Q : Exit → Act → World → Prop} {s : St} {E : Env} {M M0 : Hp} {rest : List Oper} {acc : List Pl} {o : Oper} {d : Nat}
/-- A drawn region whose operations make memory; the blocks M0 are only read. -/
theorem C.make (M0 : Hp) {id : Nat} {l : List Oper} (hE2 : e3B l E = true) (hm : P.follows .mixedOrders = true := by kernel_rfl) (h : QP P l.toArray Q M0 s M l [] E) : C P (.region id l.toArray true) Q s E M := by
  intro a w hs
  have hE : ∀ i v, lk E i = some v → i < s.n := fun i v h => by rw [← hs.size]; exact (Array.getElem?_eq_some_iff.1 (hs.env i v h)).1
  have hE2' : ∀ (i : Nat) (o : Oper), l[i]? = some o → ∀ x ∈ o.looksAt l.toArray, ∀ v, lk E x = some v → ∀ (j : Nat) (p : Oper), l[j]? = some p → p.dst = some x → j = i ∨ (i < j ∧ i ∈ ancs l.toArray l.length (edgesOf p)) := by
    intro i o ho x hx v hv j p hp hd
    obtain ⟨y, hy, rfl⟩ := lk_mem hv
    have h1 := List.all_eq_true.1 hE2 i (by simpa using (List.getElem?_eq_some_iff.1 ho).1)
    simp only [ho] at h1
    have h2 := List.all_eq_true.1 h1 _ hx
    rw [show (E.any fun z => Nat.beq z.1 y.1) = true from List.any_eq_true.2 ⟨y, hy, Nat.beq_refl _⟩, Bool.not_true, Bool.false_or] at h2
    have h3 := List.all_eq_true.1 h2 j (by simpa using (List.getElem?_eq_some_iff.1 hp).1)
    simp only [hp, hd, bne_self_eq_false, Bool.false_or, Bool.or_eq_true] at h3
    rcases h3 with h3 | h3
    · exact .inl (by simpa using h3)
    · rw [Bool.and_eq_true] at h3
      exact .inr ⟨by simpa [Nat.blt_eq] using h3.1, by simpa using h3.2⟩
  exact C.draw hm (QP.any hE hE2' h) a w hs
theorem QP.quiet {v : Value} (hd : o.dst = some d := by exact rfl) (hn : Nat.blt d s.n = true := by exact rfl) (h : ∀ w1, At s.w0 s.A M0 w1 → L P ops (EndsQ (bas s w1 M0) d v M0) [o] (bas s w1 M0) E M0)
    (k : QP P ops Q M0 s M rest (.quiet v [] [] :: acc) ((d, v) :: E)) : QP P ops Q M0 s M (o :: rest) acc E :=
  ⟨.quiet v [] [], ⟨d, hd, by simpa [Nat.blt_eq] using hn, h⟩, by unfold qE; simp only [hd]; exact k⟩
/-- .. that reads blocks which are taken later. -/
theorem QP.quietI {v : Value} (nd : List Nat) (I : Hp) (hd : o.dst = some d := by exact rfl) (hn : Nat.blt d s.n = true := by exact rfl) (h : ∀ w1, At s.w0 s.A (I ++ M0) w1 → L P ops (EndsQ (bas s w1 (I ++ M0)) d v (I ++ M0)) [o] (bas s w1 (I ++ M0)) E (I ++ M0))
    (k : QP P ops Q M0 s M rest (.quiet v nd I :: acc) ((d, v) :: E)) : QP P ops Q M0 s M (o :: rest) acc E :=
  ⟨.quiet v nd I, ⟨d, hd, by simpa [Nat.blt_eq] using hn, h⟩, by unfold qE; simp only [hd]; exact k⟩
theorem qE_make (m : Mk) : qE o (.make m) E = E := by unfold qE; rfl
theorem QP.mk0 (init : Hp) (R : Env → Hp → Prop) (hn : (match o.dst with | some d => Nat.blt d s.n | none => true) = true := by exact rfl) (h : ∀ w1, At s.w0 s.A (init ++ M0) w1 → L P ops (EndsP s M0 w1 (init ++ M0) o R []) [o] (bas s w1 (init ++ M0)) E (init ++ M0))
    (k : QP P ops Q M0 s M rest (.make ⟨[], init, R⟩ :: acc) E) : QP P ops Q M0 s M (o :: rest) acc E :=
  ⟨.make ⟨[], init, R⟩, ⟨fun d hd => by rw [hd] at hn; simpa [Nat.blt_eq] using hn, fun xs hx w1 hw => by
    cases xs with
    | nil => exact h w1 hw
    | cons x xs => exact hx.elim⟩, by rw [qE_make]; exact k⟩
theorem QP.mk1 (j : Nat) (init : Hp) (R : Env → Hp → Prop) {mj : Mk} (hj : acc.reverse[j]? = some (.make mj) := by exact rfl) (hn : (match o.dst with | some d => Nat.blt d s.n | none => true) = true := by exact rfl)
    (h : ∀ F B, mj.R F B → ∀ w1, At s.w0 s.A (B ++ (init ++ M0)) w1 → L P ops (EndsP s M0 w1 (B ++ (init ++ M0)) o R F) [o] (bas s w1 (B ++ (init ++ M0))) (F ++ E) (B ++ (init ++ M0)))
    (k : QP P ops Q M0 s M rest (.make ⟨[j], init, R⟩ :: acc) E) : QP P ops Q M0 s M (o :: rest) acc E :=
  ⟨.make ⟨[j], init, R⟩, ⟨fun d hd => by rw [hd] at hn; simpa [Nat.blt_eq] using hn, fun xs hx w1 hw => by
    match xs, hx with
    | [(F, B)], ⟨⟨m, h1, h2⟩, _⟩ =>
      rw [hj] at h1; cases h1
      have e1 : hps [(F, B)] = B := by simp [hps]
      have e2 : envs [(F, B)] = F := by simp [envs]
      rw [e1] at hw ⊢
      rw [e2]
      exact h F B h2 w1 hw⟩, by rw [qE_make]; exact k⟩
theorem QP.mk2 (j1 j2 : Nat) (init : Hp) (R : Env → Hp → Prop) {m1 m2 : Mk} (hj1 : acc.reverse[j1]? = some (.make m1) := by exact rfl) (hj2 : acc.reverse[j2]? = some (.make m2) := by exact rfl) (hn : (match o.dst with | some d => Nat.blt d s.n | none => true) = true := by exact rfl)
    (h : ∀ F1 B1 F2 B2, m1.R F1 B1 → m2.R F2 B2 → ∀ w1, At s.w0 s.A (B1 ++ (B2 ++ (init ++ M0))) w1 → L P ops (EndsP s M0 w1 (B1 ++ (B2 ++ (init ++ M0))) o R (F1 ++ F2)) [o] (bas s w1 (B1 ++ (B2 ++ (init ++ M0)))) (F1 ++ (F2 ++ E)) (B1 ++ (B2 ++ (init ++ M0))))
    (k : QP P ops Q M0 s M rest (.make ⟨[j1, j2], init, R⟩ :: acc) E) : QP P ops Q M0 s M (o :: rest) acc E :=
  ⟨.make ⟨[j1, j2], init, R⟩, ⟨fun d hd => by rw [hd] at hn; simpa [Nat.blt_eq] using hn, fun xs hx w1 hw => by
    match xs, hx with
    | [(F1, B1), (F2, B2)], ⟨⟨m, h1, h2⟩, ⟨m', h3, h4⟩, _⟩ =>
      rw [hj1] at h1; cases h1
      rw [hj2] at h3; cases h3
      have e1 : hps [(F1, B1), (F2, B2)] ++ (init ++ M0) = B1 ++ (B2 ++ (init ++ M0)) := by simp [hps]
      have e2 : envs [(F1, B1), (F2, B2)] = F1 ++ F2 := by simp [envs]
      simp only [e1, e2, List.append_assoc] at hw ⊢
      exact h F1 B1 F2 B2 h2 h4 w1 hw⟩, by rw [qE_make]; exact k⟩
theorem QP.fin0 (tks : List (Option (List Nat))) (ht : acc.reverse.map Pl.tk = tks := by exact rfl) (nds : List (List Nat)) (hnd : acc.reverse.map Pl.nd = nds := by exact rfl) (hok : okP ops tks nds = true := by decide +kernel) (hno : NdOk acc.reverse acc.reverse := by repeat (first | exact trivial | refine ⟨rfl, ?_⟩)) (hf : finals tks = [] := by decide +kernel) (hnc : ncE ops tks E = true := by kernel_rfl) (hM : M.Perm (acc.reverse.flatMap Pl.ini ++ M0)) (k : D Q .normal s E M0) : QP P ops Q M0 s M [] acc E :=
  ⟨tks, nds, E, ht, hnd, hno, hok, hM, fun x v hx => ⟨hx, ncE_ok hnc hx⟩, fun xs hx => by
    rw [hf] at hx
    cases xs with
    | nil => exact k
    | cons x xs => exact hx.elim⟩
theorem QP.fin0E (E' : Env) (hE' : ∀ i v, lk E' i = some v → lk E i = some v) (tks : List (Option (List Nat))) (ht : acc.reverse.map Pl.tk = tks := by exact rfl) (nds : List (List Nat)) (hnd : acc.reverse.map Pl.nd = nds := by exact rfl) (hok : okP ops tks nds = true := by decide +kernel) (hno : NdOk acc.reverse acc.reverse := by repeat (first | exact trivial | refine ⟨rfl, ?_⟩)) (hf : finals tks = [] := by decide +kernel) (hnc : ncE ops tks E' = true := by kernel_rfl) (hM : M.Perm (acc.reverse.flatMap Pl.ini ++ M0)) (k : D Q .normal s E' M0) : QP P ops Q M0 s M [] acc E :=
  ⟨tks, nds, E', ht, hnd, hno, hok, hM, fun x v hx => ⟨hE' x v hx, ncE_ok hnc hx⟩, fun xs hx => by
    rw [hf] at hx
    cases xs with
    | nil => exact k
    | cons x xs => exact hx.elim⟩
theorem QP.fin1 (tks : List (Option (List Nat))) (j : Nat) {mj : Mk} (ht : acc.reverse.map Pl.tk = tks := by exact rfl) (nds : List (List Nat)) (hnd : acc.reverse.map Pl.nd = nds := by exact rfl) (hok : okP ops tks nds = true := by decide +kernel) (hno : NdOk acc.reverse acc.reverse := by repeat (first | exact trivial | refine ⟨rfl, ?_⟩)) (hf : finals tks = [j] := by decide +kernel) (hnc : ncE ops tks E = true := by kernel_rfl) (hM : M.Perm (acc.reverse.flatMap Pl.ini ++ M0)) (hj : acc.reverse[j]? = some (.make mj) := by exact rfl)
    (k : ∀ F B, mj.R F B → D Q .normal s (F ++ E) (B ++ M0)) : QP P ops Q M0 s M [] acc E :=
  ⟨tks, nds, E, ht, hnd, hno, hok, hM, fun x v hx => ⟨hx, ncE_ok hnc hx⟩, fun xs hx => by
    rw [hf] at hx
    match xs, hx with
    | [(F, B)], ⟨⟨m, h1, h2⟩, _⟩ =>
      rw [hj] at h1; cases h1
      have e1 : hps [(F, B)] = B := by simp [hps]
      have e2 : envs [(F, B)] = F := by simp [envs]
      rw [e1, e2]
      exact k F B h2⟩
theorem QP.fin1E (E' : Env) (hE' : ∀ i v, lk E' i = some v → lk E i = some v) (tks : List (Option (List Nat))) (j : Nat) {mj : Mk} (ht : acc.reverse.map Pl.tk = tks := by exact rfl) (nds : List (List Nat)) (hnd : acc.reverse.map Pl.nd = nds := by exact rfl) (hok : okP ops tks nds = true := by decide +kernel) (hno : NdOk acc.reverse acc.reverse := by repeat (first | exact trivial | refine ⟨rfl, ?_⟩)) (hf : finals tks = [j] := by decide +kernel) (hnc : ncE ops tks E' = true := by kernel_rfl) (hM : M.Perm (acc.reverse.flatMap Pl.ini ++ M0)) (hj : acc.reverse[j]? = some (.make mj) := by exact rfl)
    (k : ∀ F B, mj.R F B → D Q .normal s (F ++ E') (B ++ M0)) : QP P ops Q M0 s M [] acc E :=
  ⟨tks, nds, E', ht, hnd, hno, hok, hM, fun x v hx => ⟨hE' x v hx, ncE_ok hnc hx⟩, fun xs hx => by
    rw [hf] at hx
    match xs, hx with
    | [(F, B)], ⟨⟨m, h1, h2⟩, _⟩ =>
      rw [hj] at h1; cases h1
      have e1 : hps [(F, B)] = B := by simp [hps]
      have e2 : envs [(F, B)] = F := by simp [envs]
      rw [e1, e2]
      exact k F B h2⟩
theorem QP.fin2 (tks : List (Option (List Nat))) (j1 j2 : Nat) {m1 m2 : Mk} (ht : acc.reverse.map Pl.tk = tks := by exact rfl) (nds : List (List Nat)) (hnd : acc.reverse.map Pl.nd = nds := by exact rfl) (hok : okP ops tks nds = true := by decide +kernel) (hno : NdOk acc.reverse acc.reverse := by repeat (first | exact trivial | refine ⟨rfl, ?_⟩)) (hf : finals tks = [j1, j2] := by decide +kernel) (hnc : ncE ops tks E = true := by kernel_rfl) (hM : M.Perm (acc.reverse.flatMap Pl.ini ++ M0)) (hj1 : acc.reverse[j1]? = some (.make m1) := by exact rfl) (hj2 : acc.reverse[j2]? = some (.make m2) := by exact rfl)
    (k : ∀ F1 B1 F2 B2, m1.R F1 B1 → m2.R F2 B2 → D Q .normal s (F1 ++ (F2 ++ E)) (B1 ++ (B2 ++ M0))) : QP P ops Q M0 s M [] acc E :=
  ⟨tks, nds, E, ht, hnd, hno, hok, hM, fun x v hx => ⟨hx, ncE_ok hnc hx⟩, fun xs hx => by
    rw [hf] at hx
    match xs, hx with
    | [(F1, B1), (F2, B2)], ⟨⟨m, h1, h2⟩, ⟨m', h3, h4⟩, _⟩ =>
      rw [hj1] at h1; cases h1
      rw [hj2] at h3; cases h3
      have e1 : hps [(F1, B1), (F2, B2)] ++ M0 = B1 ++ (B2 ++ M0) := by simp [hps]
      have e2 : envs [(F1, B1), (F2, B2)] ++ E = F1 ++ (F2 ++ E) := by simp [envs]
      rw [e1, e2]
      exact k F1 B1 F2 B2 h2 h4⟩
theorem QP.fin2E (E' : Env) (hE' : ∀ i v, lk E' i = some v → lk E i = some v) (tks : List (Option (List Nat))) (j1 j2 : Nat) {m1 m2 : Mk} (ht : acc.reverse.map Pl.tk = tks := by exact rfl) (nds : List (List Nat)) (hnd : acc.reverse.map Pl.nd = nds := by exact rfl) (hok : okP ops tks nds = true := by decide +kernel) (hno : NdOk acc.reverse acc.reverse := by repeat (first | exact trivial | refine ⟨rfl, ?_⟩)) (hf : finals tks = [j1, j2] := by decide +kernel) (hnc : ncE ops tks E' = true := by kernel_rfl) (hM : M.Perm (acc.reverse.flatMap Pl.ini ++ M0)) (hj1 : acc.reverse[j1]? = some (.make m1) := by exact rfl) (hj2 : acc.reverse[j2]? = some (.make m2) := by exact rfl)
    (k : ∀ F1 B1 F2 B2, m1.R F1 B1 → m2.R F2 B2 → D Q .normal s (F1 ++ (F2 ++ E')) (B1 ++ (B2 ++ M0))) : QP P ops Q M0 s M [] acc E :=
  ⟨tks, nds, E', ht, hnd, hno, hok, hM, fun x v hx => ⟨hE' x v hx, ncE_ok hnc hx⟩, fun xs hx => by
    rw [hf] at hx
    match xs, hx with
    | [(F1, B1), (F2, B2)], ⟨⟨m, h1, h2⟩, ⟨m', h3, h4⟩, _⟩ =>
      rw [hj1] at h1; cases h1
      rw [hj2] at h3; cases h3
      have e1 : hps [(F1, B1), (F2, B2)] ++ M0 = B1 ++ (B2 ++ M0) := by simp [hps]
      have e2 : envs [(F1, B1), (F2, B2)] ++ E' = F1 ++ (F2 ++ E') := by simp [envs]
      rw [e1, e2]
      exact k F1 B1 F2 B2 h2 h4⟩
theorem L.perm {M' : Hp} {rest : List Oper} (hp : M'.Perm M) (k : L P ops Q rest s E M') : L P ops Q rest s E M := fun a w hs => k a w ⟨hs.at_.perm hp, hs.defers, hs.size, hs.env⟩
theorem C.perm {M' : Hp} {c : Code} (hp : M'.Perm M) (k : C P c Q s E M') : C P c Q s E M := fun a w hs => k a w ⟨hs.at_.perm hp, hs.defers, hs.size, hs.env⟩
theorem D.perm {M' : Hp} {e : Exit} (hp : M'.Perm M) (k : D Q e s E M') : D Q e s E M := fun a w hs => k a w ⟨hs.at_.perm hp, hs.defers, hs.size, hs.env⟩
/-- The end of an operation that makes: its slot, its blocks. -/
theorem D.endsP {w1 : World} {Mall : Hp} {R : Env → Hp → Prop} {inh E' : Env} {M' : Hp} (F : Env) (B : Hp) (hM : M' = B ++ M0) (hR : R F B) (hF : ∀ x u, lk F x = some u → (o.dst = some x ∧ lk E' x = some u) ∨ lk inh x = some u) : D (EndsP s M0 w1 Mall o R inh) .normal (bas s w1 Mall) E' M' :=
  fun a w hs => ⟨rfl, hs.defers, F, B, hM ▸ hs.at_, hR, fun x u hx => (hF x u hx).imp (fun h => ⟨h.1, hs.env _ _ h.2⟩) id⟩
theorem D.endsP1 {w1 : World} {Mall : Hp} {R : Env → Hp → Prop} {inh E' : Env} {M' : Hp} (B : Hp) {v : Value} (hd : o.dst = some d := by exact rfl) (hv : lk E' d = some v := by exact rfl) (hM : M' = B ++ M0 := by exact rfl) (hR : R [(d, v)] B) : D (EndsP s M0 w1 Mall o R inh) .normal (bas s w1 Mall) E' M' :=
  D.endsP [(d, v)] B hM hR (fun x u hx => by
    rcases lk_put hx with ⟨rfl, rfl⟩ | ⟨_, h⟩
    · exact .inl ⟨hd, hv⟩
    · cases h)
theorem D.endsP0 {w1 : World} {Mall : Hp} {R : Env → Hp → Prop} {inh E' : Env} {M' : Hp} (F : Env) (B : Hp) (hM : M' = B ++ M0 := by exact rfl) (hF : ∀ x u, lk F x = some u → lk inh x = some u) (hR : R F B) : D (EndsP s M0 w1 Mall o R inh) .normal (bas s w1 Mall) E' M' :=
  D.endsP F B hM hR (fun x u hx => .inr (hF x u hx))
end
end Go.Proofs.Ytbackpcohkblfaa.SL
