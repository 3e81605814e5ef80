/- The separation logic's rule for a drawn region that turns nothing of one's own, whose calls may make memory: what is made is told by a relation that lasts; whoever looks at it may use it. No program in sight. -/
import Derived.Test.YtokcamgipnaoeaaGreatDoorSepP
set_option linter.unusedVariables false
set_option linter.unusedSimpArgs false
namespace Go.Proofs.YtokcamgipnaoeaaGreatDoor.SL
open Go Go.RowKit

/-- An operation of such a region: of which operations it uses what they made; a known value, or what it makes. -/
inductive Pf where
  | val (js : List Nat) (v : Value)
  | mk (js : List Nat) (R : World → Value → Prop)
def Pf.js : Pf → List Nat
  | .val js _ => js
  | .mk js _ => js
def Pf.isMk : Pf → Bool
  | .val _ _ => false
  | .mk _ _ => true
def gotF (ops : Array Oper) (pl : List Pf) (w : World) : List Nat → Env → Prop
  | [], [] => True
  | j :: js, xu :: us => (∃ js' R o, pl[j]? = some (.mk js' R) ∧ ops[j]? = some o ∧ o.dst = some xu.1 ∧ R w xu.2) ∧ gotF ops pl w js us
  | _, _ => False
def EndsJ (s : St) (d : Nat) (J : Value → World → Prop) : Exit → Act → World → Prop := fun e a w => e = .normal ∧ ∃ v, a.tmps[d]? = some v ∧ a.defers = s.dl ∧ J v w
def Lasts (M : Hp) (R : World → Value → Prop) : Prop := ∀ w w' u, At w (keys M) M w' → R w u → R w' u
def pfJ (w1 : World) (M : Hp) : Pf → Value → World → Prop
  | .val _ v => fun u w => u = v ∧ At w1 (keys M) M w
  | .mk _ R => fun u w => R w u ∧ At w1 (keys M) M w
def StepF (P : Program) (ops : Array Oper) (s : St) (M : Hp) (o : Oper) (E : Env) (ahead : List Pf) (p : Pf) : Prop :=
  ∃ d, o.dst = some d ∧ d < s.n ∧ (∀ js R, p = .mk js R → Lasts M R) ∧ ∀ w1 us, At s.w0 s.A M w1 → gotF ops ahead w1 p.js us → L P ops (EndsJ (bas s w1 M) d (pfJ w1 M p)) [o] (bas s w1 M) (us ++ E) M
def fE (o : Oper) (p : Pf) (E : Env) : Env := match p, o.dst with
  | .val _ v, some d => (d, v) :: E
  | _, _ => E
def okF (ops : Array Oper) (tags : List (Bool × List Nat)) : Bool := qOk ops && Nat.beq tags.length ops.size && (List.range ops.size).all fun i => match ops[i]?, tags[i]? with
  | some o, some t => t.2.all fun j => Nat.blt j i && (match ops[j]?, tags[j]? with
    | some q, some u => u.1 && (match q.dst with
      | some x => (o.looksAt ops).contains x
      | none => false)
    | _, _ => false)
  | _, _ => false
def noDst (ops : Array Oper) (E : Env) : Bool := (List.range ops.size).all fun j => E.all fun x => match (ops[j]?).bind (·.dst) with
  | some d => !(Nat.beq d x.1)
  | none => true
def QF (P : Program) (ops : Array Oper) (Q : Exit → Act → World → Prop) (M : Hp) (s : St) : List Oper → List Pf → Env → Prop
  | [], acc, E => okF ops (acc.reverse.map fun p => (p.isMk, p.js)) = true ∧ ∃ fins : List Nat, (∀ j ∈ fins, ∃ js R, acc.reverse[j]? = some (.mk js R)) ∧ ∀ w1 us, At s.w0 s.A M w1 → gotF ops acc.reverse w1 fins us → D Q .normal (bas s w1 M) (us ++ E) M
  | o :: rest, acc, E => ∃ p, StepF P ops s M o E acc.reverse p ∧ QF P ops Q M s rest (p :: acc) (fE o p E)
def fEnv : List Oper → List Pf → Env → Env
  | o :: os, p :: ps, E => fEnv os ps (fE o p E)
  | _, _, E => E
section
variable {P : Program} {ops : Array Oper} {Q : Exit → Act → World → Prop} {s : St} {E : Env} {M : Hp}
theorem QF.vals : ∀ {l : List Oper} {acc : List Pf} {E : Env}, QF P ops Q M s l acc E → ∃ pl : List Pf, pl.length = l.length ∧
    okF ops ((acc.reverse ++ pl).map fun p => (p.isMk, p.js)) = true ∧
    (∃ fins : List Nat, (∀ j ∈ fins, ∃ js R, (acc.reverse ++ pl)[j]? = some (.mk js R)) ∧ ∀ w1 us, At s.w0 s.A M w1 → gotF ops (acc.reverse ++ pl) w1 fins us → D Q .normal (bas s w1 M) (us ++ fEnv l pl E) M) ∧
    ∀ (i : Nat) (o : Oper) (p : Pf), l[i]? = some o → pl[i]? = some p → StepF P ops s M o (fEnv (l.take i) (pl.take i) E) (acc.reverse ++ pl.take i) p
  | [], acc, E, ⟨h1, h2⟩ => ⟨[], rfl, by simpa using h1, by simpa [fEnv] using h2, fun i o p hi => by simp at hi⟩
  | o :: l, acc, E, ⟨p, h1, h2⟩ => by
    obtain ⟨pl, hl, hok, hf, hs⟩ := QF.vals h2
    simp only [List.reverse_cons, List.append_assoc, List.singleton_append] at hok hf hs
    refine ⟨p :: pl, by simp [hl], hok, by simpa [fEnv] using hf, ?_⟩
    intro i q r hi hr
    cases i with
    | zero => cases hi; cases hr; simpa [fEnv] using h1
    | succ i =>
      have := hs i q r (by simpa using hi) (by simpa using hr)
      simpa [fEnv] using this
theorem lk_fEnv : ∀ {os : List Oper} {ps : List Pf} {E : Env} {x : Nat} {v : Value}, lk (fEnv os ps E) x = some v →
    (∃ (j : Nat) (o : Oper) (js : List Nat), os[j]? = some o ∧ o.dst = some x ∧ ps[j]? = some (.val js v)) ∨ lk E x = some v
  | [], ps, E, x, v, h => by
    unfold fEnv at h
    exact .inr h
  | o :: os, [], E, x, v, h => by
    unfold fEnv at h
    exact .inr h
  | o :: os, p :: ps, E, x, v, h => by
    unfold fEnv at h
    rcases lk_fEnv h with ⟨j, q, js, h1, h2, h3⟩ | h2
    · exact .inl ⟨j + 1, q, js, by simpa using h1, h2, by simpa using h3⟩
    · unfold fE at h2
      split at h2
      · rename_i js0 u d hod
        rcases lk_put h2 with ⟨rfl, rfl⟩ | ⟨hne, h2⟩
        · exact .inl ⟨0, o, js0, rfl, hod, rfl⟩
        · exact .inr h2
      · exact .inr h2
theorem gotF_mono {pl pl' : List Pf} {w w' : World} (h : ∀ (j : Nat) (js : List Nat) (R : World → Value → Prop) (u : Value), pl[j]? = some (.mk js R) → R w u → pl'[j]? = some (.mk js R) ∧ R w' u) : ∀ (js : List Nat) (us : Env), gotF ops pl w js us → gotF ops pl' w' js us
  | [], [], _ => trivial
  | j :: js, xu :: us, ⟨⟨js', R, o, h1, h2, h3, h4⟩, h5⟩ => by
    obtain ⟨g1, g2⟩ := h j js' R xu.2 h1 h4
    exact ⟨⟨js', R, o, g1, h2, h3, g2⟩, gotF_mono h js us h5⟩
  | [], _ :: _, h => h.elim
  | _ :: _, [], h => h.elim
theorem gotF_lk {pl : List Pf} {w : World} {K : Nat → Value → Prop} : ∀ (js : List Nat) (us : Env), gotF ops pl w js us → (∀ j ∈ js, ∀ xu ∈ us, ∀ o, ops[j]? = some o → o.dst = some xu.1 → K xu.1 xu.2) → ∀ x v, lk us x = some v → (x, v) ∈ us
  | [], [], _, _, x, v, h => by cases h
  | j :: js, (y, u) :: us, ⟨_, h5⟩, hK, x, v, h => by
    rcases lk_put h with ⟨rfl, rfl⟩ | ⟨_, h⟩
    · exact List.mem_cons_self
    · exact List.mem_cons_of_mem _ (gotF_lk js us h5 (fun j hj xu hx => hK j (List.mem_cons_of_mem _ hj) xu (List.mem_cons_of_mem _ hx)) x v h)
  | [], _ :: _, h, _, _, _, _ => h.elim
  | _ :: _, [], h, _, _, _, _ => h.elim
theorem lk_in : ∀ {us : Env} {x : Nat} {v : Value}, lk us x = some v → (x, v) ∈ us
  | [], _, _, h => by cases h
  | (y, u) :: us, x, v, h => by
    rcases lk_put h with ⟨rfl, rfl⟩ | ⟨_, h⟩
    · exact List.mem_cons_self
    · exact List.mem_cons_of_mem _ (lk_in h)
/-- The same operation, begun where all that it looks at is alike. -/
theorem wpOp_likeJ {ro : Option Nat} {o : Oper} {i d : Nat} {J : Value → World → Prop} {K : Act → World → Prop} {a a' : Act} {w : World} (ho : ops[i]? = some o) (hp : plainOp o.op = true) (hd : o.dst = some d) (hlt : d < a'.tmps.size) (hdl : a'.defers = s.dl)
    (h : ∀ x ∈ o.looksAt ops, a.tmps[x]? = a'.tmps[x]?) (hw : wpListIn (fen ro) 0 P ops (EndsJ s d J) [o] a' w) (hK : ∀ v w', J v w' → K (a.put (some d) v) w') : wpOpIn (fen ro) 0 P ops Q i K a w := by
  have hops : ∀ x ∈ o.op.operands, a.eval x = a'.eval x := fun x hx => act_eval_of h (fun t ht => by
    subst ht
    exact List.mem_append_left _ (List.mem_filterMap.2 ⟨.tmp t, by simpa using hx, rfl⟩))
  have hexec : execOp a.eval o = execOp a'.eval o := execOp_congr o (fun cs b e => by rw [e] at hp; cases hp) hops
  have habout : o.about P w a.eval = o.about P w a'.eval := about_congr o w hops
  have hput : ∀ u w', EndsJ s d J .normal (a'.put o.dst u) w' → K (a.put o.dst u) w' := by
    intro u w' ⟨_, v, h1, _, h2⟩
    rw [hd] at h1 ⊢
    simp only [Act.put, Array.getElem?_setIfInBounds_self_of_lt hlt] at h1
    cases h1
    exact hK _ w' h2
  unfold wpOpIn
  simp only [ho]
  rw [wanted_of h, habout]
  unfold wpListIn at hw
  split
  · rename_i hwt
    rw [if_pos hwt] at hw
    unfold Oper.wpIn at hw ⊢
    rw [habout]
    refine ⟨hw.1, ?_⟩
    have hw := hw.2
    have hnd : ∀ c, o.op ≠ .defer c := fun c e => by rw [e] at hp; cases hp
    rw [Oper.semAt_eq _ _ _ hnd] at hw ⊢
    rw [hexec]
    generalize (execOp a'.eval o).run P w = r at *
    have hnl : ∀ X : Exit → Act → World → Prop, ¬ LetsOut (EndsJ s d J) := fun X ⟨a, w, h, _⟩ => by cases h
    cases r with
    | ok x w' =>
      cases x <;> simp only [Oper.uponIn, wpListIn] at hw ⊢
      case value u => exact hput u w' hw
      case skip => exact hput _ w' hw
      case defer dd =>
        obtain ⟨_, _, _, h3, _⟩ := hw
        have h3' : dd :: a'.defers = s.dl := by
          cases hdst : o.dst <;> (rw [hdst] at h3; exact h3)
        rw [hdl] at h3'
        exact absurd (congrArg List.length h3') (by simp)
      case enter f args =>
        refine ⟨hw.1, CallsIn.mono hw.2 fun e w'' he => ?_⟩
        cases e with
        | returned u => exact hput u w'' he
        | panicked c => exact absurd he.1 (by simp)
        | outgrown => exact absurd he (hnl Q)
      case row row args => exact ⟨hw.1, RowsIn.mono hw.2 fun u w'' he => hput u w'' he⟩
      case round l f tmps assign body =>
        refine ⟨hw.1, RoundIn.mono hw.2 fun e w'' he => ?_⟩
        cases e with
        | returned u => exact hput u w'' he
        | panicked c => exact absurd he.1 (by simp)
        | outgrown => exact absurd he (hnl Q)
    | halt x w' =>
      cases x <;> simp only [Oper.uponIn] at hw ⊢
      case panic u => exact absurd hw.1 (by simp)
  · rename_i hwt
    rw [if_neg hwt] at hw
    exact ⟨hw.1, hput _ w hw.2⟩
theorem lk_app2 {A B : Env} {x : Nat} {v : Value} (h : lk (A ++ B) x = some v) : lk A x = some v ∨ lk B x = some v := by
  rcases lk_app h with h | ⟨_, h⟩
  · exact .inl h
  · exact .inr h
theorem gotF_of {pl : List Pf} {w : World} {a : Act} : ∀ (js : List Nat), (∀ j ∈ js, ∃ js' R o x u, pl[j]? = some (.mk js' R) ∧ ops[j]? = some o ∧ o.dst = some x ∧ R w u ∧ a.tmps[x]? = some u) → ∃ us, gotF ops pl w js us ∧ ∀ xu ∈ us, a.tmps[xu.1]? = some xu.2
  | [], _ => ⟨[], trivial, fun xu h => by cases h⟩
  | j :: js, h => by
    obtain ⟨js', R, o, x, u, h1, h2, h3, h4, h5⟩ := h j List.mem_cons_self
    obtain ⟨us, g1, g2⟩ := gotF_of js (fun k hk => h k (List.mem_cons_of_mem _ hk))
    refine ⟨(x, u) :: us, ⟨⟨js', R, o, h1, h2, h3, h4⟩, g1⟩, fun xu hx => ?_⟩
    rcases List.mem_cons.1 hx with rfl | hx
    · exact h5
    · exact g2 xu hx
theorem At.self {w0 w : World} {A : List Nat} (h : At w0 A M w) : At w (keys M) M w := At.own h.nodup h.holds
theorem At.onto {w0 w w' : World} {A : List Nat} (h : At w0 A M w) (h' : At w (keys M) M w') : At w0 A M w' := At.back (B := []) (M' := M) h h'
set_option maxHeartbeats 4000000 in
theorem QF.any {l : List Oper} {E0 : Env} (hno : noDst l.toArray E0 = true) (hE : ∀ i v, lk E0 i = some v → i < s.n) (h : QF P l.toArray Q M s l [] E0) : N P l.toArray Q l.length (Array.replicate l.length false) s E0 M := by
  obtain ⟨pl, hpl, hok, ⟨fins, hfm, hfin⟩, hstep⟩ := h.vals
  simp only [List.reverse_nil, List.nil_append] at hok hfm hfin hstep
  have hok0 := hok
  unfold okF at hok
  simp only [Bool.and_eq_true] at hok
  obtain ⟨⟨hq, _⟩, hjs⟩ := hok
  have hE0 : ∀ x v, lk E0 x = some v → ∀ (j : Nat) (o : Oper), l[j]? = some o → o.dst ≠ some x := by
    intro x v hx j o hj hd
    obtain ⟨y, hy, rfl⟩ := lk_mem hx
    have h1 := List.all_eq_true.1 hno j (by simpa using (List.getElem?_eq_some_iff.1 hj).1)
    have h2 := List.all_eq_true.1 h1 y hy
    simp [hj, hd] at h2
  have hq' : ∀ (i : Nat) (o : Oper), l[i]? = some o → plainOp o.op = true ∧ (∀ e ∈ o.after, Region.binds .any e = true → e.on < i) ∧
      (∀ x ∈ o.looksAt l.toArray, ∀ (j : Nat) (p : Oper), l[j]? = some p → p.dst = some x → ∃ e ∈ o.after, Region.binds .any e = true ∧ e.on = j) ∧ (∀ (j : Nat) (p : Oper), l[j]? = some p → j ≠ i → p.dst ≠ o.dst) := by
    intro i o hi
    unfold qOk at hq
    have hlt : i < l.length := (List.getElem?_eq_some_iff.1 hi).1
    have h1 := List.all_eq_true.1 hq i (by simpa using hlt)
    simp only [List.getElem?_toArray, hi, Bool.and_eq_true] at h1
    obtain ⟨⟨⟨⟨_, g1⟩, g2⟩, g3⟩, g4⟩ := h1
    refine ⟨g1, fun e he hb => ?_, fun x hx j p hj hp => ?_, fun j p hj hne => ?_⟩
    · have := Array.all_eq_true'.1 g2 e he
      simpa [hb, Nat.blt_eq] using this
    · have h2 := List.all_eq_true.1 (List.all_eq_true.1 g3 x hx) j (by simpa using (List.getElem?_eq_some_iff.1 hj).1)
      simp only [hj, hp, bne_self_eq_false, Bool.false_or] at h2
      obtain ⟨e, he, hb⟩ := Array.any_eq_true'.1 h2
      simp only [Bool.and_eq_true, beq_iff_eq] at hb
      exact ⟨e, he, hb.1, hb.2⟩
    · have h2 := List.all_eq_true.1 g4 j (by simpa using (List.getElem?_eq_some_iff.1 hj).1)
      simp only [hj, Bool.or_eq_true, beq_iff_eq, hne, false_or, bne_iff_ne] at h2
      exact h2
  have hval : ∀ (i : Nat) (o : Oper), l[i]? = some o → ∃ p, pl[i]? = some p := fun i o hi => by
    have hlt : i < pl.length := by rw [hpl]; exact (List.getElem?_eq_some_iff.1 hi).1
    exact ⟨pl[i], List.getElem?_eq_getElem hlt⟩
  have hdst : ∀ (i : Nat) (o : Oper), l[i]? = some o → ∃ d, o.dst = some d ∧ d < s.n := fun i o h1 => by
    obtain ⟨p, hp⟩ := hval i o h1
    obtain ⟨d, g1, g2, _⟩ := hstep i o p h1 hp; exact ⟨d, g1, g2⟩
  -- of what an operation uses
  have huse : ∀ (i : Nat) (o : Oper) (p : Pf), l[i]? = some o → pl[i]? = some p → ∀ j ∈ p.js, j < i ∧ ∃ q x js R, l[j]? = some q ∧ q.dst = some x ∧ x ∈ o.looksAt l.toArray ∧ pl[j]? = some (.mk js R) := by
    intro i o p ho hp j hj
    have hlt : i < l.length := (List.getElem?_eq_some_iff.1 ho).1
    have h1 := List.all_eq_true.1 hjs i (by simpa using hlt)
    simp only [List.getElem?_toArray, ho, List.getElem?_map, hp, Option.map_some] at h1
    have h2 := List.all_eq_true.1 h1 j hj
    simp only [Bool.and_eq_true, Nat.blt_eq] at h2
    obtain ⟨hji, h3⟩ := h2
    refine ⟨hji, ?_⟩
    cases hq1 : l[j]? with
    | none => rw [hq1] at h3; simp at h3
    | some q =>
      cases hp1 : pl[j]? with
      | none => rw [hq1, hp1] at h3; simp at h3
      | some r =>
        rw [hq1, hp1] at h3
        simp only [Option.map_some, Bool.and_eq_true] at h3
        cases hd1 : q.dst with
        | none => rw [hd1] at h3; simp at h3
        | some x =>
          rw [hd1] at h3
          cases r with
          | val js v => simp [Pf.isMk] at h3
          | mk js R => exact ⟨q, x, js, R, rfl, hd1, by simpa using h3.2, rfl⟩
  have main : ∀ (fuel : Nat) (listed : Array Bool) (a : Act) (w : World), listed.size = l.length → (un l.length listed).length ≤ fuel → At s.w0 s.A M w → a.defers = s.dl → a.tmps.size = s.n →
      (∀ x v, lk E0 x = some v → a.tmps[x]? = some v) →
      (∀ (j : Nat) (o : Oper) (js : List Nat) (v : Value) (d : Nat), l[j]? = some o → pl[j]? = some (.val js v) → listed.getD j true = true → o.dst = some d → a.tmps[d]? = some v) →
      (∀ (j : Nat) (o : Oper) (js : List Nat) (R : World → Value → Prop) (d : Nat), l[j]? = some o → pl[j]? = some (.mk js R) → listed.getD j true = true → o.dst = some d → ∃ u, a.tmps[d]? = some u ∧ R w u) →
      wpAnyIn (fen s.ro) 0 P .any l.toArray Q fuel listed a w := by
    intro fuel
    have fin : ∀ (listed : Array Bool) (a : Act) (w : World), (∀ j, j < l.length → listed.getD j true = true) → At s.w0 s.A M w → a.defers = s.dl → a.tmps.size = s.n →
      (∀ x v, lk E0 x = some v → a.tmps[x]? = some v) →
      (∀ (j : Nat) (o : Oper) (js : List Nat) (v : Value) (d : Nat), l[j]? = some o → pl[j]? = some (.val js v) → listed.getD j true = true → o.dst = some d → a.tmps[d]? = some v) →
      (∀ (j : Nat) (o : Oper) (js : List Nat) (R : World → Value → Prop) (d : Nat), l[j]? = some o → pl[j]? = some (.mk js R) → listed.getD j true = true → o.dst = some d → ∃ u, a.tmps[d]? = some u ∧ R w u) → Q .normal a w := by
      intro listed a w hall hw hdl hsz hb hv hm
      obtain ⟨us, hg, hus⟩ := gotF_of (ops := l.toArray) (pl := pl) (w := w) (a := a) fins (fun j hj => by
        obtain ⟨js, R, hp⟩ := hfm j hj
        have hjl : j < l.length := by rw [← hpl]; exact (List.getElem?_eq_some_iff.1 hp).1
        have ho : l[j]? = some l[j] := List.getElem?_eq_getElem hjl
        obtain ⟨d, hd, _⟩ := hdst j _ ho
        obtain ⟨u, hu, hR⟩ := hm j _ js R d ho hp (hall j hjl) hd
        exact ⟨js, R, l[j], d, u, hp, by simp, hd, hR, hu⟩)
      refine hfin w us hw hg a w ⟨hw.self, hdl, hsz, fun x v hx => ?_⟩
      rcases lk_app2 hx with hx | hx
      · exact hus _ (lk_in hx)
      · rcases lk_fEnv hx with ⟨j, o, js, h1, h2, h3⟩ | h2
        · exact hv j o js v x h1 h3 (hall j (List.getElem?_eq_some_iff.1 h1).1) h2
        · exact hb x v h2
    have hready : ∀ (listed : Array Bool), listed.size = l.length → Region.ready .any l.toArray listed = [] → ∀ j, j < l.length → listed.getD j true = true := by
      intro listed hsz hr j
      induction j using Nat.strongRecOn with
      | _ j ih =>
        intro hj
        cases hl : listed.getD j true with
        | true => rfl
        | false =>
          exfalso
          have ho : l[j]? = some l[j] := List.getElem?_eq_getElem hj
          have : j ∈ Region.ready .any l.toArray listed := by
            unfold Region.ready
            refine List.mem_filter.2 ⟨by simpa using hj, ?_⟩
            simp only [hl, List.getElem?_toArray, ho, Option.map_some, Option.getD_some, Bool.not_false, Bool.true_and]
            refine Array.all_eq_true'.2 fun e he => ?_
            cases hb : Region.binds .any e with
            | false => rfl
            | true =>
              have hlt := (hq' j _ ho).2.1 e he hb
              have h2 := ih e.on hlt (by omega)
              rw [Array.getD_eq_getD_getElem?] at h2 ⊢
              rw [Array.getElem?_eq_getElem (by omega)] at h2 ⊢
              simpa using h2
          rw [hr] at this; cases this
    induction fuel with
    | zero =>
      intro listed a w hsz hun hw hdl hts hb hv hm
      have hall : ∀ j, j < l.length → listed.getD j true = true := by
        intro j hj
        cases hl : listed.getD j true with
        | true => rfl
        | false =>
          have : j ∈ un l.length listed := List.mem_filter.2 ⟨List.mem_range.2 hj, by rw [hl]; rfl⟩
          have := List.length_pos_of_mem this
          omega
      refine ⟨?_, fin listed a w hall hw hdl hts hb hv hm⟩
      unfold Region.ready
      refine List.filter_eq_nil_iff.2 fun j hj => ?_
      rw [hall j (by simpa using hj)]; simp
    | succ fuel ih =>
      intro listed a w hsz hun hw hdl hts hb hv hm
      refine ⟨fun hr => fin listed a w (hready listed hsz hr) hw hdl hts hb hv hm, fun i hi => ?_⟩
      unfold Region.ready at hi
      obtain ⟨hir, hi⟩ := List.mem_filter.1 hi
      have hlt : i < l.length := by simpa using hir
      have ho : l[i]? = some l[i] := List.getElem?_eq_getElem hlt
      obtain ⟨o, hoe⟩ : ∃ (o : Oper), o = l[i] := ⟨_, rfl⟩
      rw [← hoe] at ho
      simp only [List.getElem?_toArray, ho, Option.map_some, Option.getD_some, Bool.and_eq_true, Bool.not_eq_true'] at hi
      obtain ⟨hun_i, hafter⟩ := hi
      obtain ⟨p, hpi⟩ := hval i o ho
      obtain ⟨d, hd, hdn, hlast, hL⟩ := hstep i o p ho hpi
      obtain ⟨q1, q2, q3, q4⟩ := hq' i o ho
      have hdeps : ∀ e ∈ o.after, Region.binds .any e = true → listed.getD e.on true = true := by
        intro e he hbd
        have := Array.all_eq_true'.1 hafter e he
        simp only [hbd, Bool.not_true, Bool.false_or] at this
        have hlt2 := q2 e he hbd
        rw [Array.getD_eq_getD_getElem?] at this ⊢
        rw [Array.getElem?_eq_getElem (by omega)] at this ⊢
        simpa using this
      -- where the text's order would stand
      obtain ⟨Ei, hEi⟩ : ∃ Ei, Ei = fEnv (l.take i) (pl.take i) E0 := ⟨_, rfl⟩
      rw [← hEi] at hL
      have hEiv : ∀ x u, lk Ei x = some u → (∃ (j : Nat) (q : Oper) (js : List Nat), j < i ∧ l[j]? = some q ∧ q.dst = some x ∧ pl[j]? = some (.val js u)) ∨ lk E0 x = some u := by
        intro x u hx
        rw [hEi] at hx
        rcases lk_fEnv hx with ⟨j, q, js, h1, h2, h3⟩ | h2
        · rw [List.getElem?_take] at h1 h3
          split at h1
          · rename_i hji
            rw [if_pos hji] at h3
            exact .inl ⟨j, q, js, hji, h1, h2, h3⟩
          · cases h1
        · exact .inr h2
      have hlt_of : ∀ x u, lk Ei x = some u → x < s.n := by
        intro x u hx
        rcases hEiv x u hx with ⟨j, q, js, _, h1, h2, _⟩ | h2
        · obtain ⟨e, he, hen⟩ := hdst j q h1
          rw [h2] at he; cases he; exact hen
        · exact hE x u h2
      obtain ⟨a', ha'⟩ : ∃ a' : Act, a' = { a with tmps := Array.ofFn (n := s.n) fun k => (lk Ei k.1).getD (a.tmps.getD k.1 undef) } := ⟨_, rfl⟩
      have ht' : ∀ x, x < s.n → a'.tmps[x]? = some ((lk Ei x).getD (a.tmps.getD x undef)) := by
        intro x hx
        rw [ha']
        simp [hx]
      have hsz' : a'.tmps.size = s.n := by rw [ha']; simp
      have hdl' : a'.defers = s.dl := by rw [ha']; exact hdl
      have hsame : ∀ x ∈ o.looksAt l.toArray, a.tmps[x]? = a'.tmps[x]? := by
        intro x hx
        rcases Nat.lt_or_ge x s.n with hxn | hxn
        · rw [ht' x hxn]
          cases hl : lk Ei x with
          | none =>
            rw [Array.getD_eq_getD_getElem?, Array.getElem?_eq_getElem (by omega)]; rfl
          | some u =>
            rcases hEiv x u hl with ⟨j, q, js, hji, h1, h2, h3⟩ | h2
            · obtain ⟨ed, hed, hbd, rfl⟩ := q3 x hx j q h1 h2
              exact hv ed.on q js u x h1 h3 (hdeps ed hed hbd) h2
            · exact hb x u h2
        · rw [Array.getElem?_eq_none (by omega), Array.getElem?_eq_none (by omega)]
      obtain ⟨us, hg, hus⟩ := gotF_of (ops := l.toArray) (pl := pl.take i) (w := w) (a := a') p.js (fun j hj => by
        obtain ⟨hji, q, x, js, R, h1, h2, h3, h4⟩ := huse i o p ho hpi j hj
        obtain ⟨ed, hed, hbd, rfl⟩ := q3 x h3 j q h1 h2
        obtain ⟨u, hu, hR⟩ := hm ed.on q js R x h1 h4 (hdeps ed hed hbd) h2
        exact ⟨js, R, q, x, u, by rw [List.getElem?_take, if_pos hji]; exact h4, by simpa using h1, h2, hR, by rw [← hsame x h3]; exact hu⟩)
      have hsat : Sat (bas s w M) (us ++ Ei) M a' w := ⟨hw.self, hdl', hsz', fun x u hx => by
        rcases lk_app2 hx with hx | hx
        · exact hus _ (lk_in hx)
        · rw [ht' x (hlt_of x u hx), hx]; rfl⟩
      refine wpOp_likeJ (s := bas s w M) (by simpa using ho) q1 hd (by rw [hsz']; exact hdn) hdl' hsame (hL w us hw hg a' w hsat) (fun v w' hJ => ?_)
      have hw' : At w (keys M) M w' := by cases p <;> exact hJ.2
      refine ih _ _ _ (by simpa using hsz) (by have := un_set hlt hsz hun_i; omega) (hw.onto hw') hdl (by simpa [Act.put] using hts) (fun x u hx => ?_) (fun j q js u e hj hu hlj hde => ?_) (fun j q js R e hj hu hlj hde => ?_)
      · have hne := hE0 x u hx i o ho
        rw [hd] at hne
        simp only [Act.put]
        rw [Array.getElem?_setIfInBounds_ne (fun e => hne (congrArg some e))]
        exact hb x u hx
      · simp only [Act.put]
        by_cases hji : j = i
        · subst hji
          rw [ho] at hj; cases hj
          rw [hpi] at hu; cases hu
          rw [hd] at hde; cases hde
          rw [Array.getElem?_setIfInBounds_self_of_lt (by rw [hts]; exact hdn)]
          exact congrArg some hJ.1
        · have hne := q4 j q hj hji
          rw [hd, hde] at hne
          rw [Array.getElem?_setIfInBounds_ne (fun e => hne (congrArg some e.symm))]
          refine hv j q js u e hj hu ?_ hde
          rw [Array.getD_eq_getD_getElem?, Array.getElem?_setIfInBounds_ne (fun e => hji e.symm)] at hlj
          rw [Array.getD_eq_getD_getElem?]; exact hlj
      · simp only [Act.put]
        by_cases hji : j = i
        · subst hji
          rw [ho] at hj; cases hj
          rw [hpi] at hu; cases hu
          rw [hd] at hde; cases hde
          rw [Array.getElem?_setIfInBounds_self_of_lt (by rw [hts]; exact hdn)]
          exact ⟨v, rfl, hJ.1⟩
        · have hne := q4 j q hj hji
          rw [hd, hde] at hne
          rw [Array.getElem?_setIfInBounds_ne (fun e => hne (congrArg some e.symm))]
          obtain ⟨u, hu1, hu2⟩ := hm j q js R e hj hu (by
            rw [Array.getD_eq_getD_getElem?, Array.getElem?_setIfInBounds_ne (fun e => hji e.symm)] at hlj
            rw [Array.getD_eq_getD_getElem?]; exact hlj) hde
          obtain ⟨d2, _, _, hl2, _⟩ := hstep j q _ hj hu
          exact ⟨u, hu1, hl2 js R rfl w w' u hw' hu2⟩
  intro a w hs
  refine main l.length _ a w (by simp) (by unfold un; exact Nat.le_trans (List.length_filter_le _ _) (by simp)) hs.at_ hs.defers hs.size hs.env (fun j o js v d hj hp hl hd => ?_) (fun j o js R d hj hp hl hd => ?_)
  · have hlt : j < l.length := (List.getElem?_eq_some_iff.1 hj).1
    simp [hlt] at hl
  · have hlt : j < l.length := (List.getElem?_eq_some_iff.1 hj).1
    simp [hlt] at hl
/-- A drawn region that turns nothing of one's own, whose calls may make memory. -/
theorem C.fresh {id : Nat} {l : List Oper} (hno : noDst l.toArray E = true) (hm : P.follows .mixedOrders = true := by kernel_rfl) (h : QF P l.toArray Q M s l [] E) : C P (.region id l.toArray true) Q s E M := by
  intro a w hs
  have hE : ∀ i v, lk E i = some v → i < s.n := fun i v h => by rw [← hs.size]; exact (Array.getElem?_eq_some_iff.1 (hs.env i v h)).1
  exact C.draw hm (QF.any hno hE h) a w hs
theorem D.endsJ {s' : St} {d : Nat} {v : Value} {J : Value → World → Prop} {M' : Hp} (h : lk E d = some v := by exact rfl) (hdl : s'.dl = s.dl := by exact rfl) (hJ : ∀ w, At s'.w0 s'.A M' w → J v w) : D (EndsJ s d J) .normal s' E M' :=
  fun a w hs => ⟨rfl, v, hs.env _ _ h, by rw [← hdl]; exact hs.defers, hJ w hs.at_⟩
theorem gotF_0 {pl : List Pf} {w : World} {us : Env} (h : gotF ops pl w [] us) : us = [] := by
  cases us with
  | nil => rfl
  | cons x us => exact h.elim
theorem gotF_1 {pl : List Pf} {w : World} {us : Env} {j : Nat} {jr : List Nat} (h : gotF ops pl w (j :: jr) us) {js : List Nat} {R : World → Value → Prop} {x : Nat} (hj : pl[j]? = some (.mk js R)) (hx : (ops[j]?).bind (·.dst) = some x) : ∃ u vs, us = (x, u) :: vs ∧ R w u ∧ gotF ops pl w jr vs := by
  cases us with
  | nil => exact h.elim
  | cons xu us =>
    obtain ⟨⟨js', R', o', h1, h2, h3, h4⟩, h5⟩ := h
    rw [hj] at h1
    cases h1
    rw [h2] at hx
    have hx : o'.dst = some x := hx
    rw [hx] at h3
    obtain ⟨y, u⟩ := xu
    cases h3
    exact ⟨u, us, rfl, h4, h5⟩
theorem StepF.val {o : Oper} {d : Nat} {ahead : List Pf} {js : List Nat} {v : Value} (hd : o.dst = some d) (hn : Nat.blt d s.n = true) (h : ∀ w1 us, At s.w0 s.A M w1 → gotF ops ahead w1 js us → L P ops (EndsJ (bas s w1 M) d (fun u w => u = v ∧ At w1 (keys M) M w)) [o] (bas s w1 M) (us ++ E) M) : StepF P ops s M o E ahead (.val js v) :=
  ⟨d, hd, Nat.blt_eq.mp hn, (fun _ _ e => Pf.noConfusion e), h⟩
theorem StepF.mk {o : Oper} {d : Nat} {ahead : List Pf} {js : List Nat} {R : World → Value → Prop} (hd : o.dst = some d) (hn : Nat.blt d s.n = true) (hR : Lasts M R) (h : ∀ w1 us, At s.w0 s.A M w1 → gotF ops ahead w1 js us → L P ops (EndsJ (bas s w1 M) d (fun u w => R w u ∧ At w1 (keys M) M w)) [o] (bas s w1 M) (us ++ E) M) : StepF P ops s M o E ahead (.mk js R) :=
  ⟨d, hd, Nat.blt_eq.mp hn, (fun _ _ e => by injection e with e1 e2; rw [← e2]; exact hR), h⟩
theorem fE_val {o : Oper} {d : Nat} {js : List Nat} {v : Value} (hd : o.dst = some d) : fE o (.val js v) E = (d, v) :: E := by unfold fE; simp only [hd]
theorem QF.consV {o : Oper} {rest : List Oper} {acc : List Pf} {d : Nat} {js : List Nat} {v : Value} (hd : o.dst = some d) (h1 : StepF P ops s M o E acc.reverse (.val js v)) (k : QF P ops Q M s rest (.val js v :: acc) ((d, v) :: E)) : QF P ops Q M s (o :: rest) acc E :=
  ⟨_, h1, by rw [fE_val hd]; exact k⟩
theorem QF.consM {o : Oper} {rest : List Oper} {acc : List Pf} {js : List Nat} {R : World → Value → Prop} (h1 : StepF P ops s M o E acc.reverse (.mk js R)) (k : QF P ops Q M s rest (.mk js R :: acc) E) : QF P ops Q M s (o :: rest) acc E :=
  ⟨_, h1, k⟩
theorem QF.nil {acc : List Pf} (fins : List Nat) (hok : okF ops (acc.reverse.map fun p => (p.isMk, p.js)) = true) (hf : ∀ j ∈ fins, ∃ js R, acc.reverse[j]? = some (.mk js R)) (k : ∀ w1 us, At s.w0 s.A M w1 → gotF ops acc.reverse w1 fins us → D Q .normal (bas s w1 M) (us ++ E) M) : QF P ops Q M s [] acc E :=
  ⟨hok, fins, hf, k⟩
theorem At.rest {w0 w : World} {A : List Nat} {B M' : Hp} (h : At w0 A (B ++ M') w) : At w0 A M' w := ⟨h.keeps, by
  have := h.nodup; unfold keys at this ⊢; rw [List.map_append, List.nodup_append] at this; exact this.2.1,
  fun x hx => h.mine x (List.mem_append_right _ hx), fun x hx => h.holds x (List.mem_append_right _ hx)⟩
theorem L.callJ {f : FuncId} [Fun P f] {xs : List Operand} {ts : Array TypeId} {vs : List Value} {pre : World → Prop} {R : Value → Hp → Prop} {J : Value → World → Prop} {d t : Nat} {pos : String} {af : Array Edge} (spec : Ctr P f vs [] pre R)
    (hn : Nat.blt d s.n = true := by exact rfl) (hx : evs E xs = some vs := by exact rfl) (hpre : ∀ w, At s.w0 s.A M w → pre w := by exact fun _ _ => trivial) (hJ : ∀ v B w, R v B → At s.w0 s.A (B ++ M) w → J v w) :
    L P ops (EndsJ s d J) [⟨some d, .call { callee := .value (.func f), args := xs.toArray, argTypes := ts }, t, pos, af, none⟩] s E M := by
  refine L.callP [] spec hn hx rfl (by decide) hpre ?_
  intro v B hB
  rw [hdrop_nil]
  exact L.nil (D.endsJ (h := by unfold lk; rw [Nat.beq_refl]) (hJ := fun w hw => hJ v B w hB hw))
attribute [local irreducible] SL.L SL.D SL.QF SL.gotF SL.StepF
variable {o : Oper} {rest : List Oper} {acc : List Pf} {d : Nat}
/-- A known value. -/
theorem QF.val0 {v : Value} (hd : o.dst = some d := by exact rfl) (hn : Nat.blt d s.n = true := by exact rfl) (h : ∀ w1, At s.w0 s.A M w1 → L P ops (EndsJ (bas s w1 M) d (fun u w => u = v ∧ At w1 (keys M) M w)) [o] (bas s w1 M) E M)
    (k : QF P ops Q M s rest (.val [] v :: acc) ((d, v) :: E)) : QF P ops Q M s (o :: rest) acc E :=
  QF.consV hd (StepF.val hd hn fun w1 us hw hg => by rw [gotF_0 hg]; exact h w1 hw) k
/-- .. that hangs on what one operation made. -/
theorem QF.val1 (j : Nat) {js : List Nat} {R : World → Value → Prop} {x : Nat} {v : Value} (hj : acc.reverse[j]? = some (.mk js R) := by exact rfl) (hx : (ops[j]?).bind (·.dst) = some x := by exact rfl) (hd : o.dst = some d := by exact rfl) (hn : Nat.blt d s.n = true := by exact rfl)
    (h : ∀ w1 u, At s.w0 s.A M w1 → R w1 u → L P ops (EndsJ (bas s w1 M) d (fun u w => u = v ∧ At w1 (keys M) M w)) [o] (bas s w1 M) ((x, u) :: E) M)
    (k : QF P ops Q M s rest (.val [j] v :: acc) ((d, v) :: E)) : QF P ops Q M s (o :: rest) acc E :=
  QF.consV hd (StepF.val hd hn fun w1 us hw hg => by
    obtain ⟨u, vs, rfl, h4, h5⟩ := gotF_1 hg hj hx
    rw [gotF_0 h5]; exact h w1 u hw h4) k
theorem QF.val2 (j1 j2 : Nat) {js1 js2 : List Nat} {R1 R2 : World → Value → Prop} {x1 x2 : Nat} {v : Value} (hj1 : acc.reverse[j1]? = some (.mk js1 R1) := by exact rfl) (hj2 : acc.reverse[j2]? = some (.mk js2 R2) := by exact rfl) (hx1 : (ops[j1]?).bind (·.dst) = some x1 := by exact rfl) (hx2 : (ops[j2]?).bind (·.dst) = some x2 := by exact rfl) (hd : o.dst = some d := by exact rfl) (hn : Nat.blt d s.n = true := by exact rfl)
    (h : ∀ w1 u1 u2, At s.w0 s.A M w1 → R1 w1 u1 → R2 w1 u2 → L P ops (EndsJ (bas s w1 M) d (fun u w => u = v ∧ At w1 (keys M) M w)) [o] (bas s w1 M) ((x1, u1) :: (x2, u2) :: E) M)
    (k : QF P ops Q M s rest (.val [j1, j2] v :: acc) ((d, v) :: E)) : QF P ops Q M s (o :: rest) acc E :=
  QF.consV hd (StepF.val hd hn fun w1 us hw hg => by
    obtain ⟨u1, vs, rfl, h4, h5⟩ := gotF_1 hg hj1 hx1
    obtain ⟨u2, vs2, rfl, h6, h7⟩ := gotF_1 h5 hj2 hx2
    rw [gotF_0 h7]; exact h w1 u1 u2 hw h4 h6) k
/-- What is made. -/
theorem QF.mk0 (R : World → Value → Prop) (hd : o.dst = some d := by exact rfl) (hn : Nat.blt d s.n = true := by exact rfl) (hR : Lasts M R) (h : ∀ w1, At s.w0 s.A M w1 → L P ops (EndsJ (bas s w1 M) d (fun u w => R w u ∧ At w1 (keys M) M w)) [o] (bas s w1 M) E M)
    (k : QF P ops Q M s rest (.mk [] R :: acc) E) : QF P ops Q M s (o :: rest) acc E :=
  QF.consM (StepF.mk hd hn hR fun w1 us hw hg => by rw [gotF_0 hg]; exact h w1 hw) k
theorem QF.mk1 (j : Nat) {js : List Nat} {R1 : World → Value → Prop} {x : Nat} (R : World → Value → Prop) (hj : acc.reverse[j]? = some (.mk js R1) := by exact rfl) (hx : (ops[j]?).bind (·.dst) = some x := by exact rfl) (hd : o.dst = some d := by exact rfl) (hn : Nat.blt d s.n = true := by exact rfl) (hR : Lasts M R)
    (h : ∀ w1 u, At s.w0 s.A M w1 → R1 w1 u → L P ops (EndsJ (bas s w1 M) d (fun u w => R w u ∧ At w1 (keys M) M w)) [o] (bas s w1 M) ((x, u) :: E) M)
    (k : QF P ops Q M s rest (.mk [j] R :: acc) E) : QF P ops Q M s (o :: rest) acc E :=
  QF.consM (StepF.mk hd hn hR fun w1 us hw hg => by
    obtain ⟨u, vs, rfl, h4, h5⟩ := gotF_1 hg hj hx
    rw [gotF_0 h5]; exact h w1 u hw h4) k
theorem QF.mk2 (j1 j2 : Nat) {js1 js2 : List Nat} {R1 R2 : World → Value → Prop} {x1 x2 : Nat} (R : World → Value → Prop) (hj1 : acc.reverse[j1]? = some (.mk js1 R1) := by exact rfl) (hj2 : acc.reverse[j2]? = some (.mk js2 R2) := by exact rfl) (hx1 : (ops[j1]?).bind (·.dst) = some x1 := by exact rfl) (hx2 : (ops[j2]?).bind (·.dst) = some x2 := by exact rfl) (hd : o.dst = some d := by exact rfl) (hn : Nat.blt d s.n = true := by exact rfl) (hR : Lasts M R)
    (h : ∀ w1 u1 u2, At s.w0 s.A M w1 → R1 w1 u1 → R2 w1 u2 → L P ops (EndsJ (bas s w1 M) d (fun u w => R w u ∧ At w1 (keys M) M w)) [o] (bas s w1 M) ((x1, u1) :: (x2, u2) :: E) M)
    (k : QF P ops Q M s rest (.mk [j1, j2] R :: acc) E) : QF P ops Q M s (o :: rest) acc E :=
  QF.consM (StepF.mk hd hn hR fun w1 us hw hg => by
    obtain ⟨u1, vs, rfl, h4, h5⟩ := gotF_1 hg hj1 hx1
    obtain ⟨u2, vs2, rfl, h6, h7⟩ := gotF_1 h5 hj2 hx2
    rw [gotF_0 h7]; exact h w1 u1 u2 hw h4 h6) k
/-- The end, nothing of what was made is looked at further on. -/
theorem QF.fin0 (tags : List (Bool × List Nat)) (ht : (acc.reverse.map fun p => (p.isMk, p.js)) = tags := by exact rfl) (hok : okF ops tags = true := by decide +kernel) (k : ∀ w1, At s.w0 s.A M w1 → D Q .normal (bas s w1 M) E M) : QF P ops Q M s [] acc E :=
  QF.nil [] (ht ▸ hok) (fun j hj => by cases hj) fun w1 us hw hg => by rw [gotF_0 hg]; exact k w1 hw
theorem QF.fin1 (tags : List (Bool × List Nat)) (j : Nat) {js : List Nat} {R : World → Value → Prop} {x : Nat} (hj : acc.reverse[j]? = some (.mk js R) := by exact rfl) (hx : (ops[j]?).bind (·.dst) = some x := by exact rfl) (ht : (acc.reverse.map fun p => (p.isMk, p.js)) = tags := by exact rfl) (hok : okF ops tags = true := by decide +kernel) (k : ∀ w1 u, At s.w0 s.A M w1 → R w1 u → D Q .normal (bas s w1 M) ((x, u) :: E) M) : QF P ops Q M s [] acc E :=
  QF.nil [j] (ht ▸ hok) (fun i hi => by rw [List.mem_singleton] at hi; subst hi; exact ⟨js, R, hj⟩) fun w1 us hw hg => by
    obtain ⟨u, vs, rfl, h4, h5⟩ := gotF_1 hg hj hx
    rw [gotF_0 h5]; exact k w1 u hw h4
end
end Go.Proofs.YtokcamgipnaoeaaGreatDoor.SL
