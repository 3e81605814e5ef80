/- The separation logic's rules for slices that are only read, whatever they lie in; a new beginning in the midst of a walk. No program in sight. -/
import Derived.Test.YtbackpcohkblfaaSepT
set_option linter.unusedVariables false
set_option linter.unusedSimpArgs false
namespace Go.Proofs.Ytbackpcohkblfaa.SL
open Go Go.RowKit

/-- A slice's base. -/
def sB : Value → Nat
  | .slice (some a) _ _ => a.block
  | _ => 0
def sO : Value → Nat
  | .slice (some a) _ _ => a.off
  | _ => 0
/-- A slice of n elements. -/
def SlV (v : Value) (n : Nat) : Prop := ∃ p cap, v = .slice p n cap ∧ n ≤ cap ∧ (0 < n → p = some ⟨sB v, sO v, none⟩)
/-- .. whose cells read l. -/
def Rd (w : World) (A : List Nat) (v : Value) (n : Nat) (l : List Value) : Prop := SlV v n ∧ (0 < n → Old w A (sB v) (sO v) l)
section
variable {P : Program} {ops : Array Oper} {Q : Exit → Act → World → Prop} {s : St} {E : Env} {M : Hp} {rest : List Oper} {d t : Nat} {pos : String} {af : Array Edge}

theorem Old.at {w0 w : World} {A : List Nat} {b off : Nat} {l : List Value} (h : Old w0 A b off l) (hw : At w0 A M w) : Old w [] b off l :=
  ⟨Nat.lt_of_lt_of_le h.1 hw.keeps.size, by simp, fun i v hi => h.cell hw hi⟩
theorem Old.base {w0 w : World} {A : List Nat} {b off : Nat} {l : List Value} (h : Old w0 A b off l) (hw : At w0 A M w) (M' : Hp) (hM : ∀ x ∈ M', x ∈ M) : Old w (keys M') b off l :=
  ⟨Nat.lt_of_lt_of_le h.1 hw.keeps.size, fun hb => by
    obtain ⟨x, hx, rfl⟩ := List.mem_map.1 hb
    rcases hw.mine x (hM x hx) with h1 | h1
    · exact h.2.1 h1
    · have := h.1; omega, fun i v hi => h.cell hw hi⟩
theorem Rd.at {w0 w : World} {A : List Nat} {v : Value} {n : Nat} {l : List Value} (h : Rd w0 A v n l) (hw : At w0 A M w) : Rd w [] v n l := ⟨h.1, fun hn => (h.2 hn).at hw⟩
theorem Rd.base {w0 w : World} {A : List Nat} {v : Value} {n : Nat} {l : List Value} (h : Rd w0 A v n l) (hw : At w0 A M w) (M' : Hp) (hM : ∀ x ∈ M', x ∈ M) : Rd w (keys M') v n l := ⟨h.1, fun hn => (h.2 hn).base hw M' hM⟩
theorem SlV.nil : SlV (.slice none 0 0) 0 := ⟨none, 0, rfl, Nat.le_refl _, fun h => absurd h (by decide)⟩
theorem SlV.mk {n cap : Nat} (b o : Nat) (h : n ≤ cap) : SlV (.slice (some ⟨b, o, none⟩) n cap) n := ⟨_, cap, rfl, h, fun _ => rfl⟩
theorem Rd.nil {w : World} {A : List Nat} : Rd w A (.slice none 0 0) 0 [] := ⟨SlV.nil, fun h => absurd h (by decide)⟩
theorem Rd.empty {w : World} {A : List Nat} {v : Value} (h : SlV v 0) (l : List Value) : Rd w A v 0 l := ⟨h, fun h => absurd h (by decide)⟩
theorem Old.own {w : World} {A : List Nat} {b T : Nat} {l l' : List Value} (h : w.heap[b]? = some (ob l T)) (hb : b ∉ A) (k : Nat) (hl : l.take k = l') : Old w A b 0 l' := by
  refine ⟨some_lt h, hb, fun i v hi => ?_⟩
  subst hl
  rw [Nat.zero_add]
  rw [List.getElem?_take] at hi
  split at hi
  · exact cell_ob h hi
  · cases hi
/-- An own slice. -/
theorem Rd.own {w : World} {A : List Nat} {b n cap T : Nat} {l l' : List Value} (h : w.heap[b]? = some (ob l T)) (hb : b ∉ A) (hc : n ≤ cap) (k : Nat) (hl : l.take k = l') : Rd w A (.slice (some ⟨b, 0, none⟩) n cap) n l' := ⟨SlV.mk _ _ hc, fun _ => Old.own h hb k hl⟩
/-- A new beginning: what is known so far is told of the world as it is now; blocks are left behind. -/
theorem L.base (B : Hp) {M' : Hp} (hM : M = B ++ M') (k : ∀ w1, At s.w0 s.A M w1 → L P ops Q rest { s with w0 := w1, A := keys M' } E M') : L P ops Q rest s E M := by
  intro a w hs
  have hp : At s.w0 s.A M' w := ⟨hs.at_.keeps, by
      have := hs.at_.nodup; rw [hM] at this; unfold keys at this ⊢; rw [List.map_append, List.nodup_append] at this; exact this.2.1,
    fun x hx => hs.at_.mine x (by rw [hM]; exact List.mem_append_right _ hx), fun x hx => hs.at_.holds x (by rw [hM]; exact List.mem_append_right _ hx)⟩
  exact k w hs.at_ a w ⟨At.own hp.nodup hp.holds, hs.defers, hs.size, hs.env⟩
theorem C.base {c : Code} (B : Hp) {M' : Hp} (hM : M = B ++ M') (k : ∀ w1, At s.w0 s.A M w1 → C P c Q { s with w0 := w1, A := keys M' } E M') : C P c Q s E M := by
  intro a w hs
  have hp : At s.w0 s.A M' w := ⟨hs.at_.keeps, by
      have := hs.at_.nodup; rw [hM] at this; unfold keys at this ⊢; rw [List.map_append, List.nodup_append] at this; exact this.2.1,
    fun x hx => hs.at_.mine x (by rw [hM]; exact List.mem_append_right _ hx), fun x hx => hs.at_.holds x (by rw [hM]; exact List.mem_append_right _ hx)⟩
  exact k w hs.at_ a w ⟨At.own hp.nodup hp.holds, hs.defers, hs.size, hs.env⟩
/-- Back to the world ahead. -/
theorem At.back {w0 w1 w : World} {A : List Nat} {B M' M2 : Hp} (h1 : At w0 A (B ++ M') w1) (h : At w1 (keys M') M2 w) : At w0 A M2 w := by
  refine At.trans (M := M') ⟨h1.keeps, ?_, fun x hx => h1.mine x (List.mem_append_right _ hx), fun x hx => h1.holds x (List.mem_append_right _ hx)⟩ h
  have := h1.nodup; unfold keys at this ⊢; rw [List.map_append, List.nodup_append] at this; exact this.2.1
theorem At.notin {w0 w1 : World} {A : List Nat} {B M' : Hp} (h : At w0 A (B ++ M') w1) {x : Nat × Obj} (hx : x ∈ B) : x.1 ∉ keys M' := by
  have := h.nodup; unfold keys at this ⊢; rw [List.map_append, List.nodup_append] at this
  exact fun hk => this.2.2 _ (List.mem_map_of_mem hx) _ hk rfl
theorem At.mem {w0 w1 : World} {A : List Nat} {B M' : Hp} (h : At w0 A (B ++ M') w1) {x : Nat × Obj} (hx : x ∈ B) : w1.heap[x.1]? = some x.2 := h.holds x (List.mem_append_left _ hx)
/-- The block that is left behind, as memory that is only read. -/
theorem At.left {w0 w1 : World} {A : List Nat} {B M' : Hp} (h : At w0 A (B ++ M') w1) {b n cap T : Nat} {l l' : List Value} (hx : (b, ob l T) ∈ B) (hc : n ≤ cap) (k : Nat) (hl : l.take k = l') : Rd w1 (keys M') (.slice (some ⟨b, 0, none⟩) n cap) n l' :=
  Rd.own (h.mem hx) (h.notin hx) hc k hl
theorem At.sub {w0 w1 : World} {A : List Nat} {B M' : Hp} (_ : At w0 A (B ++ M') w1) : ∀ x ∈ M', x ∈ B ++ M' := fun x hx => List.mem_append_right _ hx
theorem Rd.back {w0 w1 : World} {A : List Nat} {B M' : Hp} {v : Value} {n : Nat} {l : List Value} (h : Rd w0 A v n l) (hw : At w0 A (B ++ M') w1) : Rd w1 (keys M') v n l := h.base hw M' (fun x hx => List.mem_append_right _ hx)
/-- How many elements. -/
theorem L.lenR {x : Operand} {v : Value} {n e T : Nat} (h : SlV v n) [Und P T (.slice e)] (hn : Nat.blt d s.n = true := by exact rfl) (hx : ev E x = some v := by exact rfl)
    (c : L P ops Q rest s ((d, .int .i64 n) :: E) M) : L P ops Q (⟨some d, .call { callee := .builtin .len, args := #[x], argTypes := #[T] }, t, pos, af, none⟩ :: rest) s E M := by
  obtain ⟨p, cap, rfl, _, _⟩ := h
  exact L.lenV hn hx c
/-- The place of an element. -/
theorem L.indexR {T e n sz k : Nat} {x y : Operand} {v : Value} {q : IntKind} {i : Int} (h : SlV v n) [hT : Und P T (.slice e)] [hS : Siz P e sz] (hk : k < n) (hn : Nat.blt d s.n = true := by exact rfl) (hx : ev E x = some v := by exact rfl) (hy : ev E y = some (.int q i) := by exact rfl) (hi : i = (k : Int) := by exact rfl)
    (c : L P ops Q rest s ((d, .pointer (some ⟨sB v, sO v + k * sz, none⟩)) :: E) M) : L P ops Q (⟨some d, .indexAddr T x y, t, pos, af, none⟩ :: rest) s E M := by
  obtain ⟨p, cap, hv, _, hp⟩ := h
  have h1 := hp (by omega)
  rw [h1] at hv
  rw [hv] at hx
  exact L.indexP hn hx hy hi hk c
/-- A part of a slice. -/
theorem L.sliceR {T e sz n lo hi : Nat} {x : Operand} {y z : Option Operand} {v : Value} (h : SlV v n) [hT : Und P T (.slice e)] [hS : Siz P e sz]
    (h1 : lo ≤ hi) (h2 : hi ≤ n) (hn : Nat.blt d s.n = true := by exact rfl) (hx : ev E x = some v := by exact rfl)
    (hy : (y = none ∧ lo = 0) ∨ ∃ o q, y = some o ∧ ev E o = some (.int q (lo : Int))) (hz : (z = none ∧ hi = n) ∨ ∃ o q, z = some o ∧ ev E o = some (.int q (hi : Int)))
    (c : ∀ v', SlV v' (hi - lo) → (lo < hi → sB v' = sB v ∧ sO v' = sO v + lo * sz) → L P ops Q rest s ((d, v') :: E) M) : L P ops Q (⟨some d, .slice T x y z none, t, pos, af, none⟩ :: rest) s E M := by
  obtain ⟨p, cap, hv, hc, hp⟩ := h
  have hh := fun (a : Act) (w : World) (hs : Sat s E M a w) => bounds_run (P := P) (w := w) (sl := true) (n := n) (cap := cap) (opt_ev hs hy) (opt_ev hs hz) h1 (Nat.le_trans h2 hc)
  refine L.calm (S := fun ρ => Instr.sliceAt T (ρ x) (y.map ρ) (z.map ρ) none) (v := .slice (if cap = lo then p else p.map (·.add (lo * sz))) (hi - lo) (cap - lo)) hn (fun _ => rfl) (fun a w hs => ?_) (c _ ⟨_, _, rfl, by omega, fun h => ?_⟩ (fun h => ?_))
  · show (Instr.sliceAt T (a.eval x) (y.map a.eval) (z.map a.eval) none).run P w = _
    rw [hs.ev hx, hv]
    unfold Instr.sliceAt
    rw [run_bind_ok und_run]
    simp only
    unfold Instr.slice
    rw [run_bind_ok und_run]
    simp only
    refine (run_bind_ok (hh a w hs)).trans ?_
    simp only
    rw [run_bind_ok (siz_run hS.out)]
    rfl
  · have h0 := hp (by omega)
    rw [if_neg (by omega), h0]
    simp only [Option.map_some, add_at, sB, sO]
  · have h0 := hp (by omega)
    rw [if_neg (by omega), h0]
    simp only [Option.map_some, add_at, sB, sO]
    exact ⟨trivial, trivial⟩
end
end Go.Proofs.Ytbackpcohkblfaa.SL
