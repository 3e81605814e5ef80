
/- The separation logic's rule for a drawn region that loads and stores cells of one's own: taken in the text's order, where cells that are stored are looked at by none but those that wait. No program in sight. -/
import Derived.Test.YtbcaelhchmoigaaSep
set_option linter.unusedVariables false
set_option linter.unusedSimpArgs false
namespace Go.Proofs.Ytbcaelhchmoigaa.SL
open Go Go.RowKit

/-- What an operation does with cells of one's own. -/
inductive Fp where
  | no
  | rd (k o n : Nat)
  | wr (k o n : Nat)
def Fp.clash : Fp → Fp → Bool
  | .wr k o n, .wr k' o' n' => Nat.beq k k' && (Nat.blt o (o' + n') && Nat.blt o' (o + n))
  | .wr k o n, .rd k' o' n' => Nat.beq k k' && (Nat.blt o (o' + n') && Nat.blt o' (o + n))
  | .rd k o n, .wr k' o' n' => Nat.beq k k' && (Nat.blt o (o' + n') && Nat.blt o' (o + n))
  | _, _ => false
/-- Two cells: has the operation to do with it, does it store there? -/
def Fp.has : Fp → Nat → Nat → Bool
  | .no, _, _ => false
  | .rd k o n, k', c => Nat.beq k k' && (Nat.ble o c && Nat.blt c (o + n))
  | .wr k o n, k', c => Nat.beq k k' && (Nat.ble o c && Nat.blt c (o + n))
def Fp.sto : Fp → Nat → Nat → Bool
  | .wr k o n, k', c => Nat.beq k k' && (Nat.ble o c && Nat.blt c (o + n))
  | _, _, _ => false
def insL (S : List Nat) : List Nat → List Nat
  | [] => S
  | x :: xs => match S.contains x with
    | true => insL S xs
    | false => insL (x :: S) xs
def edgesOf (o : Oper) : List Nat := (o.after.toList.filter (Region.binds .any ·)).map (·.on)
def ancs (ops : Array Oper) : Nat → List Nat → List Nat
  | 0, S => S
  | n + 1, S => ancs ops n (insL S (S.flatMap fun j => match ops[j]? with
    | some o => edgesOf o
    | none => []))
def okW (ops : Array Oper) (fs : List Fp) : Bool := (List.range ops.size).all fun i => match ops[i]?, fs[i]? with
  | some o, some f => plainOp o.op && o.after.all (fun e => !Region.binds .any e || Nat.blt e.on i) &&
    (o.looksAt ops).all (fun x => (List.range ops.size).all fun j => match ops[j]? with
      | some p => p.dst != some x || (o.after.any fun e => Region.binds .any e && e.on == j)
      | none => true) &&
    (List.range ops.size).all (fun j => j == i || match ops[j]? with
      | some p => p.dst.isNone || p.dst != o.dst
      | none => true) &&
    (List.range i).all (fun j => match fs[j]? with
      | some g => !g.clash f || (ancs ops ops.size (edgesOf o)).contains j
      | none => true)
  | _, _ => false
structure Dat where
  v : Value
  f : Fp
  ws : List Value
def wrM (M : Hp) (k c : Nat) (ws : List Value) : Hp := match hat M k with
  | some (_, .cells a T (0, 0)) => hset M k (ob (setL a.toList c ws) T)
  | _ => M
def Dat.app (M : Hp) (d : Dat) : Hp := match d.f with
  | .wr k c _ => wrM M k c d.ws
  | _ => M
def Dat.env (o : Oper) (d : Dat) (E : Env) : Env := match o.dst with
  | some t => (t, d.v) :: E
  | none => E
abbrev own1 (s : St) (w1 : World) (B : Hp) : St := { w0 := w1, A := keys B, n := s.n, ro := s.ro, dl := s.dl }
/-- One operation has come to an end. -/
def EndsW (s : St) (M : Hp) : Exit → Act → World → Prop := fun e a w => e = .normal ∧ a.defers = s.dl ∧ At s.w0 s.A M w
def Step (P : Program) (ops : Array Oper) (s : St) (o : Oper) (d : Dat) (E : Env) (M : Hp) : Prop := match d.f with
  | .no => ∃ t, o.dst = some t ∧ t < s.n ∧ ∀ w1, Keeps s.A s.w0 w1 → L P ops (EndsQ (own1 s w1 []) t d.v []) [o] (own1 s w1 []) E []
  | .rd k c n => ∃ t b T l, o.dst = some t ∧ t < s.n ∧ hat M k = some (b, ob l T) ∧ ∀ l' : List Value, l'.length = l.length → (∀ i, c ≤ i → i < c + n → l'[i]? = l[i]?) → ∀ w1, Keeps s.A s.w0 w1 →
      L P ops (EndsQ (own1 s w1 [(b, ob l' T)]) t d.v [(b, ob l' T)]) [o] (own1 s w1 [(b, ob l' T)]) E [(b, ob l' T)]
  | .wr k c n => ∃ b T l, o.dst = none ∧ hat M k = some (b, ob l T) ∧ d.ws.length = n ∧ c + n ≤ l.length ∧ ∀ l' : List Value, l'.length = l.length → ∀ w1, Keeps s.A s.w0 w1 →
      L P ops (EndsW (own1 s w1 [(b, ob l' T)]) [(b, ob (setL l' c d.ws) T)]) [o] (own1 s w1 [(b, ob l' T)]) E [(b, ob l' T)]
def QW (P : Program) (ops : Array Oper) (Q : Exit → Act → World → Prop) : List Oper → List Fp → St → Env → Hp → Prop
  | [], acc, s, E, M => okW ops acc.reverse = true ∧ D Q .normal s E M
  | o :: rest, acc, s, E, M => ∃ d, Step P ops s o d E M ∧ QW P ops Q rest (d.f :: acc) s (d.env o E) (d.app M)
def wEnv : List Oper → List Dat → Env → Env
  | o :: os, d :: ds, E => wEnv os ds (d.env o E)
  | _, _, E => E

theorem insL_sub : ∀ {xs S : List Nat} {x : Nat}, x ∈ insL S xs → x ∈ S ∨ x ∈ xs
  | [], S, x, h => .inl h
  | y :: ys, S, x, h => by
    unfold insL at h
    split at h
    · rcases insL_sub h with h | h
      · exact .inl h
      · exact .inr (List.mem_cons_of_mem _ h)
    · rcases insL_sub h with h | h
      · rcases List.mem_cons.1 h with rfl | h
        · exact .inr List.mem_cons_self
        · exact .inl h
      · exact .inr (List.mem_cons_of_mem _ h)
theorem ancs_all {ops : Array Oper} {p : Nat → Prop} (hc : ∀ j o, ops[j]? = some o → p j → ∀ x ∈ edgesOf o, p x) : ∀ (n : Nat) (S : List Nat), (∀ x ∈ S, p x) → ∀ x ∈ ancs ops n S, p x
  | 0, S, h => h
  | n + 1, S, h => by
    unfold ancs
    refine ancs_all hc n _ fun x hx => ?_
    rcases insL_sub hx with hx | hx
    · exact h x hx
    · obtain ⟨j, hj, hx⟩ := List.mem_flatMap.1 hx
      cases ho : ops[j]? with
      | none => rw [ho] at hx; cases hx
      | some o => rw [ho] at hx; exact hc j o ho (h j hj) x hx
def cellM (M : Hp) (k c : Nat) : Option Value := match hat M k with
  | some (_, .cells a _ _) => a[c]?
  | _ => none
/-- The same blocks, of the same lengths. -/
def Shp (M M' : Hp) : Prop := ∀ k, hat M k = hat M' k ∨ ∃ b l l' T, hat M k = some (b, ob l T) ∧ hat M' k = some (b, ob l' T) ∧ l.length = l'.length
/-- What an operation has stored at a cell. -/
def Dat.at (d : Dat) (k c : Nat) : Option Value := match d.f with
  | .wr k' c0 n => if k = k' ∧ c0 ≤ c ∧ c < c0 + n then d.ws[c - c0]? else none
  | _ => none
/-- A cell holds v, where these operations have come to an end. -/
def Is (ds : List Dat) (p : Nat → Prop) (M0 : Hp) (k c : Nat) (v : Value) : Prop :=
  (∃ j d, ds[j]? = some d ∧ p j ∧ d.at k c = some v ∧ ∀ j' d', j < j' → ds[j']? = some d' → p j' → d'.at k c = none) ∨ ((∀ j d, ds[j]? = some d → p j → d.at k c = none) ∧ cellM M0 k c = some v)
section
variable {P : Program} {ops : Array Oper} {Q : Exit → Act → World → Prop} {s : St} {E : Env} {M : Hp}
/-- The same operation, begun where all that it looks at is alike. -/
theorem wpOp_likeW {ro : Option Nat} {o : Oper} {i : Nat} {X : Exit → Act → World → Prop} {dl : List Deferred} {K : Act → World → Prop} {a a' : Act} {w : World} (hX : ∀ e a w, X e a w → e = .normal ∧ a.defers = dl) (ho : ops[i]? = some o) (hp : plainOp o.op = true) (hdl : a'.defers = dl)
    (h : ∀ x ∈ o.looksAt ops, a.tmps[x]? = a'.tmps[x]?) (hw : wpListIn (fen ro) 0 P ops X [o] a' w) (hK : ∀ u w', X .normal (a'.put o.dst u) w' → K (a.put o.dst u) w') : wpOpIn (fen ro) 0 P ops Q i K a w := by
  have hops : ∀ x ∈ o.op.operands, a.eval x = a'.eval x := fun x hx => act_eval_of h (fun t ht => by
    subst ht
    exact List.mem_append_left _ (List.mem_filterMap.2 ⟨.tmp t, by simpa using hx, rfl⟩))
  have hexec : execOp a.eval o = execOp a'.eval o := execOp_congr o (fun cs b e => by rw [e] at hp; cases hp) hops
  have habout : o.about P w a.eval = o.about P w a'.eval := about_congr o w hops
  unfold wpOpIn
  simp only [ho]
  rw [wanted_of h, habout]
  unfold wpListIn at hw
  split
  · rename_i hwt
    rw [if_pos hwt] at hw
    unfold Oper.wpIn at hw ⊢
    rw [habout]
    refine ⟨hw.1, ?_⟩
    have hw := hw.2
    have hnd : ∀ c, o.op ≠ .defer c := fun c e => by rw [e] at hp; cases hp
    rw [Oper.semAt_eq _ _ _ hnd] at hw ⊢
    rw [hexec]
    generalize (execOp a'.eval o).run P w = r at *
    have hnl : ¬ LetsOut X := fun ⟨a, w, h⟩ => absurd (hX _ _ _ h).1 (by simp)
    cases r with
    | ok x w' =>
      cases x <;> simp only [Oper.uponIn, wpListIn] at hw ⊢
      case value u => exact hK u w' hw
      case skip => exact hK _ w' hw
      case defer dd =>
        have h3 := (hX _ _ _ hw).2
        have h3' : dd :: a'.defers = dl := by
          cases hdst : o.dst <;> (rw [hdst] at h3; exact h3)
        rw [hdl] at h3'
        exact absurd (congrArg List.length h3') (by simp)
      case enter f args =>
        refine ⟨hw.1, CallsIn.mono hw.2 fun e w'' he => ?_⟩
        cases e with
        | returned u => exact hK u w'' he
        | panicked c => exact absurd (hX _ _ _ he).1 (by simp)
        | outgrown => exact absurd he hnl
      case row row args => exact ⟨hw.1, RowsIn.mono hw.2 fun u w'' he => hK u w'' he⟩
      case round l f tmps assign body =>
        refine ⟨hw.1, RoundIn.mono hw.2 fun e w'' he => ?_⟩
        cases e with
        | returned u => exact hK u w'' he
        | panicked c => exact absurd (hX _ _ _ he).1 (by simp)
        | outgrown => exact absurd he hnl
    | halt x w' =>
      cases x <;> simp only [Oper.uponIn] at hw ⊢
      case panic u => exact absurd (hX _ _ _ hw).1 (by simp)
  · rename_i hwt
    rw [if_neg hwt] at hw
    exact ⟨hw.1, hK _ w hw.2⟩
variable {rest : List Oper} {acc : List Fp} {d t : Nat} {pos : String} {af : Array Edge}
end
end Go.Proofs.Ytbcaelhchmoigaa.SL
