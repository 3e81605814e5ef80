
/- Several texts, one behind the other. -/
import Derived.WalkKit
import Derived.Orders
import Derived.ProofKit
import Derived.TacticsIn
import Derived.OrdersIn
import Derived.LoopIn
import Derived.Laws.Entries
import Derived.Laws.Sem
import Derived.OrdersHeld
import Derived.RangeFuncNested
import Derived.RangeFuncLeaves
import Derived.Maps.AppendAt
import Derived.KernelRfl
import Derived.Laws.StructEq
set_option linter.unusedVariables false
set_option linter.unusedSimpArgs false
/- A small separation logic over the walk's rules: slots as a list, own blocks as a list, the rest of memory as it was. No program in sight. -/
namespace Go.Proofs.Ytbackpcohkblfaa.SL
open Go Go.RowKit

abbrev Env := List (Nat × Value)
abbrev Hp := List (Nat × Obj)
/-- A row of cells, none of them frozen. -/
abbrev ob (l : List Value) (T : TypeId) : Obj := .cells l.toArray T (0, 0)
def lk : Env → Nat → Option Value
  | [], _ => none
  | (i, v) :: r, j => match Nat.beq i j with
    | true => some v
    | false => lk r j
def ev (E : Env) : Operand → Option Value
  | .tmp t => lk E t
  | .const v => some v
  | .global g => some (.pointer (some ⟨g, 0, none⟩))
  | .func f => some (.func (.func f) #[] #[])
def evs (E : Env) : List Operand → Option (List Value)
  | [] => some []
  | x :: xs => match ev E x with
    | none => none
    | some v => match evs E xs with
      | none => none
      | some vs => some (v :: vs)
def keys (M : Hp) : List Nat := M.map (·.1)
def hat : Hp → Nat → Option (Nat × Obj)
  | [], _ => none
  | x :: _, 0 => some x
  | _ :: r, i + 1 => hat r i
def hset : Hp → Nat → Obj → Hp
  | [], _, _ => []
  | x :: r, 0, o => (x.1, o) :: r
  | x :: r, i + 1, o => x :: hset r i o
/-- Chosen blocks ahead, the others behind. -/
def hpick (M : Hp) : List Nat → Option Hp
  | [] => some []
  | i :: is => match hat M i with
    | none => none
    | some x => match hpick M is with
      | none => none
      | some r => some (x :: r)
def hdrop (M : Hp) (is : List Nat) (k : Nat) : Hp := match M with
  | [] => []
  | x :: r => match is.contains k with
    | true => hdrop r is (k + 1)
    | false => x :: hdrop r is (k + 1)

structure Keeps (A : List Nat) (x y : World) : Prop where
  os : y.os = x.os
  tape : y.tape = x.tape
  output : y.output = x.output
  size : x.heap.size ≤ y.heap.size
  block : ∀ k, k < x.heap.size → k ∉ A → y.heap[k]? = x.heap[k]?
theorem Keeps.refl (A : List Nat) (w : World) : Keeps A w w := ⟨rfl, rfl, rfl, Nat.le_refl _, fun _ _ _ => rfl⟩
theorem Keeps.trans {A B : List Nat} {x y z : World} (h : Keeps A x y) (k : Keeps B y z) (hB : ∀ b ∈ B, b ∈ A ∨ x.heap.size ≤ b) : Keeps A x z :=
  ⟨k.os.trans h.os, k.tape.trans h.tape, k.output.trans h.output, Nat.le_trans h.size k.size, fun i hi ha =>
    (k.block i (Nat.lt_of_lt_of_le hi h.size) (fun hb => by rcases hB i hb with h' | h'; exact ha h'; omega)).trans (h.block i hi ha)⟩
theorem Keeps.below {x y : World} (h : Keeps [] x y) : Below x.heap.size x y := ⟨h.os, h.tape, h.output, h.size, fun k hk => h.block k hk (by simp)⟩
theorem Keeps.of_below {x y : World} (h : Below x.heap.size x y) (A : List Nat) : Keeps A x y := ⟨h.os, h.tape, h.output, h.size, fun k hk _ => h.block k hk⟩
theorem Keeps.drew {A : List Nat} {x y : World} (h : Keeps A x y) : Keeps A x y.drew := ⟨h.os, h.tape, h.output, h.size, h.block⟩
theorem Keeps.alloc {A : List Nat} {x y : World} (h : Keeps A x y) (o : Obj) : Keeps A x (y.alloc o) :=
  ⟨h.os, h.tape, h.output, Nat.le_trans h.size (by simp), fun k hk ha => (Below.heap_alloc y o k (Nat.lt_of_lt_of_le hk h.size)).trans (h.block k hk ha)⟩

/-- What is known of the world: own blocks M, beside blocks that stand as in w0 (those of A aside). -/
structure At (w0 : World) (A : List Nat) (M : Hp) (w : World) : Prop where
  keeps : Keeps A w0 w
  nodup : (keys M).Nodup
  mine : ∀ x ∈ M, x.1 ∈ A ∨ w0.heap.size ≤ x.1
  holds : ∀ x ∈ M, w.heap[x.1]? = some x.2
theorem At.start (w : World) : At w [] [] w := ⟨Keeps.refl _ _, by simp [keys], by simp, by simp⟩
theorem At.own {w : World} {M : Hp} (hn : (keys M).Nodup) (h : ∀ x ∈ M, w.heap[x.1]? = some x.2) : At w (keys M) M w :=
  ⟨Keeps.refl _ _, hn, fun x hx => .inl (List.mem_map.2 ⟨x, hx, rfl⟩), h⟩
theorem At.drew {w0 : World} {A : List Nat} {M : Hp} {w : World} (h : At w0 A M w) : At w0 A M w.drew := ⟨h.keeps.drew, h.nodup, h.mine, h.holds⟩
theorem some_lt {w : World} {k : Nat} {o : Obj} (h : w.heap[k]? = some o) : k < w.heap.size := by
  rcases Nat.lt_or_ge k w.heap.size with h' | h'
  · exact h'
  · rw [Array.getElem?_eq_none h'] at h; cases h
theorem At.lt {w0 : World} {A : List Nat} {M : Hp} {w : World} (h : At w0 A M w) : ∀ x ∈ M, x.1 < w.heap.size := fun x hx => some_lt (h.holds x hx)
theorem alloc_last (w : World) (o : Obj) : (w.alloc o).heap[w.heap.size]? = some o := by
  show (w.heap.push o)[w.heap.size]? = _
  simp
theorem At.alloc {w0 : World} {A : List Nat} {M : Hp} {w : World} (h : At w0 A M w) (o : Obj) : At w0 A ((w.heap.size, o) :: M) (w.alloc o) := by
  refine ⟨h.keeps.alloc o, ?_, ?_, ?_⟩
  · simp only [keys, List.map_cons, List.nodup_cons]
    refine ⟨fun hm => ?_, h.nodup⟩
    obtain ⟨x, hx, he⟩ := List.mem_map.1 hm
    have := h.lt x hx
    omega
  · intro x hx
    rcases List.mem_cons.1 hx with rfl | hx
    · exact .inr h.keeps.size
    · exact h.mine x hx
  · intro x hx
    rcases List.mem_cons.1 hx with rfl | hx
    · exact alloc_last w o
    · exact (Below.heap_alloc w o x.1 (h.lt x hx)).trans (h.holds x hx)
/-- New blocks of which nothing is told. -/
theorem At.junk {w0 : World} {A : List Nat} {M : Hp} {w : World} (h : At w0 A M w) (o : Obj) : At w0 A M (w.alloc o) :=
  let k := h.alloc o
  ⟨k.keeps, h.nodup, h.mine, fun x hx => k.holds x (List.mem_cons_of_mem _ hx)⟩
theorem hat_mem : ∀ {M : Hp} {i : Nat} {x : Nat × Obj}, hat M i = some x → x ∈ M
  | [], _, _, h => by cases h
  | y :: r, 0, x, h => by cases h; exact List.mem_cons_self
  | y :: r, i + 1, x, h => List.mem_cons_of_mem _ (hat_mem (M := r) (i := i) h)
theorem hset_keys : ∀ (M : Hp) (i : Nat) (o : Obj), keys (hset M i o) = keys M
  | [], _, _ => rfl
  | x :: r, 0, o => rfl
  | x :: r, i + 1, o => by simp only [hset, keys, List.map_cons]; rw [show r.map (·.1) = keys r from rfl, ← hset_keys r i o]; rfl
theorem hset_mem : ∀ {M : Hp} {i : Nat} {o o' : Obj} {b : Nat}, hat M i = some (b, o) → ∀ x ∈ hset M i o', x = (b, o') ∨ (x ∈ M ∧ ((keys M).Nodup → x.1 ≠ b))
  | [], _, _, _, _, h, _, _ => by cases h
  | y :: r, 0, o, o', b, h, x, hx => by
    cases h
    rcases List.mem_cons.1 hx with rfl | hx
    · exact .inl rfl
    · refine .inr ⟨List.mem_cons_of_mem _ hx, fun hn e => ?_⟩
      simp only [keys, List.map_cons, List.nodup_cons] at hn
      exact hn.1 (List.mem_map.2 ⟨x, hx, e⟩)
  | y :: r, i + 1, o, o', b, h, x, hx => by
    rcases List.mem_cons.1 hx with rfl | hx
    · refine .inr ⟨List.mem_cons_self, fun hn e => ?_⟩
      simp only [keys, List.map_cons, List.nodup_cons] at hn
      exact hn.1 (List.mem_map.2 ⟨_, hat_mem (M := r) (i := i) h, e.symm⟩)
    · rcases hset_mem (M := r) (i := i) (o := o) (o' := o') (b := b) h x hx with h1 | ⟨h1, h2⟩
      · exact .inl h1
      · refine .inr ⟨List.mem_cons_of_mem _ h1, fun hn => h2 ?_⟩
        simp only [keys, List.map_cons, List.nodup_cons] at hn
        exact hn.2
/-- A block of one's own is turned. -/
theorem At.turn {w0 : World} {A : List Nat} {M : Hp} {w w' : World} {i b : Nat} {o o' : Obj} (h : At w0 A M w) (hi : hat M i = some (b, o))
    (h1 : w'.os = w.os) (h2 : w'.tape = w.tape) (h3 : w'.output = w.output) (h4 : w'.heap.size = w.heap.size) (h5 : w'.heap[b]? = some o') (h6 : ∀ k, k ≠ b → w'.heap[k]? = w.heap[k]?) :
    At w0 A (hset M i o') w' := by
  have hb := hat_mem hi
  refine ⟨h.keeps.trans (B := [b]) ⟨h1, h2, h3, by omega, fun k _ hk => h6 k (by simpa using hk)⟩ (fun c hc => ?_), by rw [hset_keys]; exact h.nodup, ?_, ?_⟩
  · obtain rfl : c = b := by simpa using hc
    exact h.mine _ hb
  · intro x hx
    rcases hset_mem hi x hx with rfl | ⟨hx, _⟩
    · exact h.mine (b, o) hb
    · exact h.mine x hx
  · intro x hx
    rcases hset_mem hi x hx with rfl | ⟨hx, hne⟩
    · exact h5
    · rw [h6 _ (hne h.nodup)]; exact h.holds x hx
theorem hpick_mem : ∀ {M : Hp} {is : List Nat} {B : Hp}, hpick M is = some B → ∀ x ∈ B, x ∈ M
  | M, [], B, h, x, hx => by cases h; cases hx
  | M, i :: is, B, h, x, hx => by
    unfold hpick at h
    split at h
    · cases h
    · rename_i y hy
      split at h
      · cases h
      · rename_i r hr
        cases h
        rcases List.mem_cons.1 hx with rfl | hx
        · exact hat_mem hy
        · exact hpick_mem hr x hx
theorem hat_key : ∀ {M : Hp} {i j : Nat} {x y : Nat × Obj}, (keys M).Nodup → hat M i = some x → hat M j = some y → x.1 = y.1 → i = j
  | [], _, _, _, _, _, h, _, _ => by cases h
  | z :: r, 0, 0, x, y, _, _, _, _ => rfl
  | z :: r, 0, j + 1, x, y, hn, h, k, e => by
    cases h
    simp only [keys, List.map_cons, List.nodup_cons] at hn
    exact absurd (List.mem_map.2 ⟨_, hat_mem (M := r) (i := j) k, e.symm⟩) hn.1
  | z :: r, i + 1, 0, x, y, hn, h, k, e => by
    cases k
    simp only [keys, List.map_cons, List.nodup_cons] at hn
    exact absurd (List.mem_map.2 ⟨_, hat_mem (M := r) (i := i) h, e⟩) hn.1
  | z :: r, i + 1, j + 1, x, y, hn, h, k, e => by
    simp only [keys, List.map_cons, List.nodup_cons] at hn
    rw [hat_key (M := r) (i := i) (j := j) hn.2 h k e]
theorem hpick_key {M : Hp} (hn : (keys M).Nodup) {j : Nat} {y : Nat × Obj} (hj : hat M j = some y) : ∀ {is : List Nat} {B : Hp}, hpick M is = some B → (∃ x ∈ B, x.1 = y.1) → j ∈ is
  | [], B, h, ⟨x, hx, _⟩ => by cases h; cases hx
  | i :: is, B, h, ⟨x, hx, e⟩ => by
    unfold hpick at h
    split at h
    · cases h
    · rename_i z hz
      split at h
      · cases h
      · rename_i r hr
        cases h
        rcases List.mem_cons.1 hx with rfl | hx
        · rw [hat_key hn hz hj e]; exact List.mem_cons_self
        · exact List.mem_cons_of_mem _ (hpick_key hn hj hr ⟨x, hx, e⟩)
theorem hpick_nodup {M : Hp} (hn : (keys M).Nodup) : ∀ {is : List Nat} {B : Hp}, is.Nodup → hpick M is = some B → (keys B).Nodup
  | [], B, _, h => by cases h; simp [keys]
  | i :: is, B, hi, h => by
    have h' := h
    unfold hpick at h
    split at h
    · cases h
    · rename_i z hz
      split at h
      · cases h
      · rename_i r hr
        cases h
        rw [List.nodup_cons] at hi
        simp only [keys, List.map_cons, List.nodup_cons]
        refine ⟨fun hm => ?_, hpick_nodup hn hi.2 hr⟩
        obtain ⟨x, hx, e⟩ := List.mem_map.1 hm
        exact hi.1 (hpick_key hn hz hr ⟨x, hx, e⟩)
theorem hdrop_mem : ∀ {M : Hp} {is : List Nat} {k : Nat}, ∀ x ∈ hdrop M is k, ∃ j, hat M j = some x ∧ k + j ∉ is
  | [], _, _, x, hx => by cases hx
  | y :: r, is, k, x, hx => by
    unfold hdrop at hx
    split at hx
    · obtain ⟨j, h1, h2⟩ := hdrop_mem (M := r) x hx
      exact ⟨j + 1, h1, by rw [show k + (j + 1) = k + 1 + j by omega]; exact h2⟩
    · rename_i hc
      rcases List.mem_cons.1 hx with rfl | hx
      · exact ⟨0, rfl, fun hk => by rw [Nat.add_zero] at hk; rw [List.contains_iff_mem.2 hk] at hc; cases hc⟩
      · obtain ⟨j, h1, h2⟩ := hdrop_mem (M := r) x hx
        exact ⟨j + 1, h1, by rw [show k + (j + 1) = k + 1 + j by omega]; exact h2⟩
theorem hdrop_nodup : ∀ {M : Hp} {is : List Nat} {k : Nat}, (keys M).Nodup → (keys (hdrop M is k)).Nodup
  | [], _, _, h => h
  | y :: r, is, k, h => by
    simp only [keys, List.map_cons, List.nodup_cons] at h
    unfold hdrop
    split
    · exact hdrop_nodup h.2
    · simp only [keys, List.map_cons, List.nodup_cons]
      refine ⟨fun hm => h.1 ?_, hdrop_nodup h.2⟩
      obtain ⟨x, hx, e⟩ := List.mem_map.1 hm
      obtain ⟨j, h1, _⟩ := hdrop_mem x hx
      exact List.mem_map.2 ⟨x, hat_mem h1, e⟩
/-- Some blocks are kept in sight, in another order. -/
theorem At.pick {w0 : World} {A : List Nat} {M : Hp} {w : World} (h : At w0 A M w) {is : List Nat} {B : Hp} (hi : is.Nodup) (hp : hpick M is = some B) : At w0 A B w :=
  ⟨h.keeps, hpick_nodup h.nodup hi hp, fun x hx => h.mine x (hpick_mem hp x hx), fun x hx => h.holds x (hpick_mem hp x hx)⟩
/-- The frame: a call that owns a part of what is owned. -/
theorem At.frame {w0 w w' : World} {A : List Nat} {M B C : Hp} {is : List Nat} (h : At w0 A M w) (hp : hpick M is = some B) (h' : At w (keys B) C w') : At w0 A (C ++ hdrop M is 0) w' := by
  have hsub : ∀ b ∈ keys B, b ∈ A ∨ w0.heap.size ≤ b := by
    intro b hb
    obtain ⟨x, hx, rfl⟩ := List.mem_map.1 hb
    exact h.mine x (hpick_mem hp x hx)
  have hout : ∀ x ∈ hdrop M is 0, x ∈ M ∧ x.1 ∉ keys B := by
    intro x hx
    obtain ⟨j, h1, h2⟩ := hdrop_mem x hx
    refine ⟨hat_mem h1, fun hk => h2 ?_⟩
    obtain ⟨y, hy, e⟩ := List.mem_map.1 hk
    rw [Nat.zero_add]
    exact hpick_key h.nodup h1 hp ⟨y, hy, e⟩
  refine ⟨h.keeps.trans h'.keeps hsub, ?_, ?_, ?_⟩
  · simp only [keys, List.map_append]
    rw [List.nodup_append]
    refine ⟨h'.nodup, hdrop_nodup h.nodup, ?_⟩
    intro a ha b hb e
    subst e
    obtain ⟨x, hx, rfl⟩ := List.mem_map.1 ha
    obtain ⟨y, hy, e⟩ := List.mem_map.1 hb
    obtain ⟨hyM, hyB⟩ := hout y hy
    rcases h'.mine x hx with h1 | h1
    · exact hyB (by rw [e]; exact h1)
    · have := h.lt y hyM; omega
  · intro x hx
    rcases List.mem_append.1 hx with hx | hx
    · rcases h'.mine x hx with h1 | h1
      · exact hsub _ h1
      · exact .inr (Nat.le_trans h.keeps.size h1)
    · exact h.mine x (hout x hx).1
  · intro x hx
    rcases List.mem_append.1 hx with hx | hx
    · exact h'.holds x hx
    · obtain ⟨h1, h2⟩ := hout x hx
      rw [h'.keeps.block _ (h.lt x h1) h2]; exact h.holds x h1

/-- Where the walk stands: within a round of a range over a function, or not. -/
def fen (ro : Option Nat) : Fence := { Fence.wide with round := ro }
theorem fen_none : fen none = Fence.wide := rfl
theorem fen_room (ro : Option Nat) (n : Nat) : (fen ro).room n := fun _ h => by cases h
theorem wpIn_n {ro : Option Nat} {n m : Nat} {P : Program} {c : Code} {Q : Exit → Act → World → Prop} {a : Act} {w : World} (h : c.wpIn (fen ro) n P Q a w) : c.wpIn (fen ro) m P Q a w :=
  fun b k cs hro hb _ => h b k cs hro hb (fen_room ro _)
structure St where
  w0 : World
  A : List Nat
  n : Nat
  ro : Option Nat := none
  dl : List Deferred := []
structure Sat (s : St) (E : Env) (M : Hp) (a : Act) (w : World) : Prop where
  at_ : At s.w0 s.A M w
  defers : a.defers = s.dl
  size : a.tmps.size = s.n
  env : ∀ i v, lk E i = some v → a.tmps[i]? = some v
theorem Sat.ev {s : St} {E : Env} {M : Hp} {a : Act} {w : World} (h : Sat s E M a w) {x : Operand} {v : Value} (hx : ev E x = some v) : a.eval x = v := by
  cases x with
  | tmp t =>
    have := h.env t v hx
    show a.tmps.getD t undef = v
    rw [Array.getD_eq_getD_getElem?, this]; rfl
  | const c => cases hx; rfl
  | global g => cases hx; rfl
  | func f => cases hx; rfl
theorem lk_put {E : Env} {d i : Nat} {v u : Value} (h : lk ((d, v) :: E) i = some u) : (i = d ∧ u = v) ∨ (i ≠ d ∧ lk E i = some u) := by
  unfold lk at h
  split at h
  · rename_i hb
    have : d = i := Nat.eq_of_beq_eq_true hb
    cases h; exact .inl ⟨this.symm, rfl⟩
  · rename_i hb
    have : d ≠ i := Nat.ne_of_beq_eq_false hb
    exact .inr ⟨fun e => this e.symm, h⟩
theorem Sat.put {s : St} {E : Env} {M M' : Hp} {a : Act} {w w' : World} (h : Sat s E M a w) {d : Nat} (hd : Nat.blt d s.n = true) (v : Value) (hw : At s.w0 s.A M' w') : Sat s ((d, v) :: E) M' (a.put (some d) v) w' := by
  have hd' : d < s.n := by simpa [Nat.blt_eq] using hd
  refine ⟨hw, h.defers, by simp [Act.put, h.size], fun i u hi => ?_⟩
  simp only [Act.put]
  rcases lk_put hi with ⟨rfl, rfl⟩ | ⟨hne, hi⟩
  · rw [Array.getElem?_setIfInBounds_self_of_lt (by rw [h.size]; exact hd')]
  · rw [Array.getElem?_setIfInBounds_ne (fun e => hne e.symm)]; exact h.env i u hi
theorem Sat.go {s : St} {E : Env} {M M' : Hp} {a : Act} {w w' : World} (h : Sat s E M a w) (v : Value) (hw : At s.w0 s.A M' w') : Sat s E M' (a.put none v) w' := ⟨hw, h.defers, h.size, h.env⟩

def C (P : Program) (c : Code) (Q : Exit → Act → World → Prop) (s : St) (E : Env) (M : Hp) : Prop := ∀ a w, Sat s E M a w → c.wpIn (fen s.ro) 0 P Q a w
def L (P : Program) (ops : Array Oper) (Q : Exit → Act → World → Prop) (l : List Oper) (s : St) (E : Env) (M : Hp) : Prop := ∀ a w, Sat s E M a w → wpListIn (fen s.ro) 0 P ops Q l a w
def D (Q : Exit → Act → World → Prop) (e : Exit) (s : St) (E : Env) (M : Hp) : Prop := ∀ a w, Sat s E M a w → Q e a w

section code
variable {P : Program} {Q : Exit → Act → World → Prop} {s : St} {E : Env} {M : Hp} {x y c : Code}
theorem C.seq (h : C P x (Exit.then (y.wpIn (fen s.ro) 0 P Q) Q) s E M) : C P (.seq x y) Q s E M := fun a w hs => wpIn_seq (h a w hs)
theorem D.then_ {K : Act → World → Prop} (h : ∀ a w, Sat s E M a w → K a w) : D (Exit.then K Q) .normal s E M := fun a w hs => h a w hs
theorem D.seq (h : C P y Q s E M) : D (Exit.then (y.wpIn (fen s.ro) 0 P Q) Q) .normal s E M := fun a w hs => h a w hs
theorem D.thenRet {K : Act → World → Prop} (h : D Q .ret s E M) : D (Exit.then K Q) .ret s E M := fun a w hs => h a w hs
theorem D.thenExit {K : Act → World → Prop} {i : Nat} (h : D Q (.exit i) s E M) : D (Exit.then K Q) (.exit i) s E M := fun a w hs => h a w hs
theorem D.blkNormal {i : Nat} (h : D Q .normal s E M) : D (Exit.inBlock i Q) .normal s E M := fun a w hs => h a w hs
theorem D.blkRet {i : Nat} (h : D Q .ret s E M) : D (Exit.inBlock i Q) .ret s E M := fun a w hs => h a w hs
theorem D.blkExit {i : Nat} (h : D Q .normal s E M) : D (Exit.inBlock i Q) (.exit i) s E M := fun a w hs => by
  show (if i = i then _ else _); rw [if_pos rfl]; exact h a w hs
theorem D.blkOther {i j : Nat} (hne : Nat.beq j i = false := by exact rfl) (h : D Q (.exit j) s E M) : D (Exit.inBlock i Q) (.exit j) s E M := fun a w hs => by
  show (if j = i then _ else _); rw [if_neg (Nat.ne_of_beq_eq_false hne)]; exact h a w hs
theorem C.skip (h : D Q .normal s E M) : C P .skip Q s E M := fun a w hs => wpIn_skip (h a w hs)
theorem C.ret (h : D Q .ret s E M) : C P .ret Q s E M := fun a w hs => wpIn_ret (h a w hs)
theorem C.exit {i : Nat} (h : D Q (.exit i) s E M) : C P (.exit i) Q s E M := fun a w hs => wpIn_exit (h a w hs)
theorem C.block {i : Nat} (h : C P c (Exit.inBlock i Q) s E M) : C P (.block i c) Q s E M := fun a w hs => wpIn_block (h a w hs)
theorem C.cond {v : Operand} {t : Bool} (hv : ev E v = some (.bool t)) (h1 : t = true → C P x Q s E M) (h2 : t = false → C P y Q s E M) : C P (.cond v x y) Q s E M :=
  fun a w hs => wpIn_cond_split (hs.ev hv) (fun ht => h1 ht a w hs) (fun ht => h2 ht a w hs)
theorem C.yes {v : Operand} (hv : ev E v = some (.bool true) := by exact rfl) (h1 : C P x Q s E M) : C P (.cond v x y) Q s E M := C.cond hv (fun _ => h1) (fun h => by cases h)
theorem C.no {v : Operand} (hv : ev E v = some (.bool false) := by exact rfl) (h1 : C P y Q s E M) : C P (.cond v x y) Q s E M := C.cond hv (fun h => by cases h) (fun _ => h1)
theorem C.region {id : Nat} {l : List Oper} (h : L P l.toArray Q l s E M) : C P (.region id l.toArray false) Q s E M := fun a w hs => wpIn_region_lit (h a w hs)
theorem L.nil {ops : Array Oper} (h : D Q .normal s E M) : L P ops Q [] s E M := fun a w hs => h a w hs
/-- Less is known: chosen blocks, chosen slots. -/
theorem Sat.less {E' : Env} {M' : Hp} {is : List Nat} (hi : is.Nodup) (hp : hpick M is = some M') (hE : ∀ i v, lk E' i = some v → lk E i = some v) {a : Act} {w : World} (h : Sat s E M a w) : Sat s E' M' a w :=
  ⟨h.at_.pick hi hp, h.defers, h.size, fun i v hv => h.env i v (hE i v hv)⟩
theorem lk_nil {i : Nat} {v : Value} {E : Env} (h : lk [] i = some v) : lk E i = some v := by cases h
theorem lk_cons {E E' : Env} {j : Nat} {u : Value} (h1 : lk E j = some u) (h2 : ∀ i v, lk E' i = some v → lk E i = some v) : ∀ i v, lk ((j, u) :: E') i = some v → lk E i = some v := by
  intro i v h
  rcases lk_put h with ⟨rfl, rfl⟩ | ⟨_, h⟩
  · exact h1
  · exact h2 i v h
/-- A slot's value in other words. -/
theorem Sat.eqv {i : Nat} {v v' : Value} (h : lk E i = some v) (e : v = v') {a : Act} {w : World} (hs : Sat s E M a w) : Sat s ((i, v') :: E) M a w :=
  ⟨hs.at_, hs.defers, hs.size, fun j u hj => by
    rcases lk_put hj with ⟨rfl, rfl⟩ | ⟨_, hj⟩
    · rw [← e]; exact hs.env _ _ h
    · exact hs.env j u hj⟩
theorem C.eqv {i : Nat} {v v' : Value} (h : lk E i = some v) (e : v = v') (k : C P c Q s ((i, v') :: E) M) : C P c Q s E M := fun a w hs => k a w (hs.eqv h e)
theorem L.eqv {ops : Array Oper} {l : List Oper} {i : Nat} {v v' : Value} (h : lk E i = some v) (e : v = v') (k : L P ops Q l s ((i, v') :: E) M) : L P ops Q l s E M := fun a w hs => k a w (hs.eqv h e)
theorem least {p : Nat → Prop} (h : ∃ n, p n) : ∃ n, p n ∧ ∀ m, p m → n ≤ m := by
  obtain ⟨n, hn⟩ := h
  induction n using Nat.strongRecOn with
  | _ n ih =>
    by_cases hm : ∃ m, m < n ∧ p m
    · obtain ⟨m, h1, h2⟩ := hm; exact ih m h1 h2
    · exact ⟨n, hn, fun m hp => by
        rcases Nat.lt_or_ge m n with h | h
        · exact absurd ⟨m, h, hp⟩ hm
        · exact h⟩
/-- A loop: what holds at each round's head, told of ghosts. -/
theorem C.loop {α : Type} (G : α → Prop) (EI : α → Env) (MI : α → Hp) (μ : α → Nat) (x0 : α) (h0 : ∀ a w, Sat s E M a w → Sat s (EI x0) (MI x0) a w) (g0 : G x0)
    (round : ∀ x, G x → C P c (Exit.then (fun a w => ∃ y, G y ∧ μ y < μ x ∧ Sat s (EI y) (MI y) a w) Q) s (EI x) (MI x)) : C P (.loop c) Q s E M := by
  intro a w hs
  have hl : ∀ a w, (∃ x, G x ∧ Sat s (EI x) (MI x) a w) → ∃ n, (∃ x, G x ∧ Sat s (EI x) (MI x) a w ∧ μ x = n) ∧ ∀ m, (∃ x, G x ∧ Sat s (EI x) (MI x) a w ∧ μ x = m) → n ≤ m :=
    fun a w ⟨x, h1, h2⟩ => least ⟨μ x, x, h1, h2, rfl⟩
  open Classical in
  refine wpIn_loop (fun a w => ∃ x, G x ∧ Sat s (EI x) (MI x) a w) (fun a w => if h : ∃ x, G x ∧ Sat s (EI x) (MI x) a w then Classical.choose (hl a w h) else 0) ⟨x0, g0, h0 a w hs⟩ ?_
  intro a w hI
  obtain ⟨⟨x, h1, h2, h3⟩, _⟩ := Classical.choose_spec (hl a w hI)
  refine wpIn_mono (round x h1 a w h2) ?_
  intro e a' w' hq
  cases e with
  | normal =>
    obtain ⟨y, hy, hlt, hsy⟩ := hq
    refine ⟨⟨y, hy, hsy⟩, ?_⟩
    rw [dif_pos (⟨y, hy, hsy⟩ : ∃ x, G x ∧ Sat s (EI x) (MI x) a' w'), dif_pos hI]
    have := (Classical.choose_spec (hl a' w' ⟨y, hy, hsy⟩)).2 (μ y) ⟨y, hy, hsy, rfl⟩
    omega
  | exit id => exact hq
  | goto l => exact hq
  | ret => exact hq
  | panic ch => exact hq
  | outgrown => exact hq
end code
end Go.Proofs.Ytbackpcohkblfaa.SL

/- The separation logic's rules for operations: slots, numbers, cells. No program in sight. -/
namespace Go.Proofs.Ytbackpcohkblfaa.SL
open Go Go.RowKit

/-- What is asked of the program's types. -/
class Und (P : Program) (t : TypeId) (d : outParam TypeDesc) : Prop where
  out : P.underlying t = some d
class Siz (P : Program) (t : TypeId) (n : outParam Nat) : Prop where
  out : (P.info? t).map (·.size) = some n
class Zer (P : Program) (t : TypeId) (z : outParam Value) (l : outParam (List Value)) : Prop where
  out : (P.info? t).bind (·.zero) = some z
  cells : z.cells = l.toArray
/-- A struct's field: its place among the cells. -/
class Fld (P : Program) (t : TypeId) (f : Nat) (o : outParam Nat) : Prop where
  out : ∃ fs g, P.underlying t = some (.struct fs) ∧ fs[f]? = some g ∧ g.offset = o ∧ ∃ n, (P.info? g.type).map (·.size) = some (n + 1)

section run
variable {P : Program} {w w' : World}
theorem run_bind_ok {α β : Type} {s : Sem α} {f : α → Sem β} {x : α} (h : s.run P w = .ok x w') : (s >>= f).run P w = (f x).run P w' := by
  rw [Sem.run_bind, h]; rfl
theorem run_value {s : Sem Value} {v : Value} (h : s.run P w = .ok v w') : (do pure (Next.value (← s)) : Sem Next).run P w = .ok (.value v) w' := run_bind_ok h
theorem run_skip {s : Sem Unit} (h : s.run P w = .ok () w') : (do s; pure Next.skip : Sem Next).run P w = .ok .skip w' := run_bind_ok h
theorem und_run {t : TypeId} {d : TypeDesc} [h : Und P t d] : (underlying t).run P w = .ok d w := by
  unfold underlying program
  simp only [Sem.run_bind, Sem.run, Result.andThen]
  rw [h.out]; rfl
theorem info_run {t : TypeId} {i : TypeInfo} (h : P.info? t = some i) : (typeInfo t).run P w = .ok i w := by
  unfold typeInfo program
  simp only [Sem.run_bind, Sem.run, Result.andThen]
  rw [h]; rfl
theorem siz_run {t : TypeId} {n : Nat} (h : (P.info? t).map (·.size) = some n) : (sizeOf t).run P w = .ok n w := by
  cases hi : P.info? t with
  | none => rw [hi] at h; cases h
  | some i =>
    rw [hi] at h; cases h
    unfold sizeOf
    rw [run_bind_ok (info_run hi)]; rfl
theorem zer_run {t : TypeId} {z : Value} (h : (P.info? t).bind (·.zero) = some z) : (zeroValue t).run P w = .ok z w := by
  cases hi : P.info? t with
  | none => rw [hi] at h; cases h
  | some i =>
    rw [hi] at h
    unfold zeroValue
    rw [run_bind_ok (info_run hi)]
    simp only [Option.bind_some] at h
    rw [h]; rfl
def aggB : TypeDesc → Bool
  | .struct _ | .array _ _ => true
  | _ => false
theorem agg_run {t : TypeId} {d : TypeDesc} [h : Und P t d] : (isAgg t).run P w = .ok (aggB d) w := by
  unfold isAgg
  rw [run_bind_ok und_run]
  cases d <;> rfl
def oneB : Value → Bool
  | .agg _ | .tuple _ => false
  | _ => true
/-- A type of one cell; one of many. -/
class Sgl (P : Program) (t : TypeId) : Prop where
  out : ∃ d, P.underlying t = some d ∧ aggB d = false
class Agl (P : Program) (t : TypeId) : Prop where
  out : ∃ d, P.underlying t = some d ∧ aggB d = true
theorem add_at (b o n : Nat) : (⟨b, o, none⟩ : Addr).add n = ⟨b, o + n, none⟩ := by unfold Addr.add; split <;> simp_all
theorem cell_ob {b o : Nat} {l : List Value} {T : TypeId} {v : Value} (h : w.heap[b]? = some (ob l T)) (hv : l[o]? = some v) : w.cell? ⟨b, o, none⟩ = some v := by
  unfold World.cell?; rw [h]; simpa using hv
theorem load_ob {b o : Nat} {l : List Value} {T : TypeId} {v : Value} (h : w.heap[b]? = some (ob l T)) (hv : l[o]? = some v) : (load ⟨b, o, none⟩).run P w = .ok v w := by
  unfold load Sem.run; rw [cell_ob h hv]; rfl
theorem loadCells_ob {b o : Nat} {l : List Value} {T : TypeId} (h : w.heap[b]? = some (ob l T)) : ∀ (n i : Nat) (acc : Array Value), o + i + n ≤ l.length → (loadCellsFrom ⟨b, o, none⟩ i n acc).run P w = .ok (acc ++ ((l.drop (o + i)).take n).toArray) w
  | 0, i, acc, _ => by simp [loadCellsFrom]
  | n + 1, i, acc, hn => by
    have hlt : o + i < l.length := by omega
    unfold loadCellsFrom
    rw [add_at, run_bind_ok (load_ob h (List.getElem?_eq_getElem hlt)), loadCells_ob h n (i + 1) _ (by omega)]
    have : (l.drop (o + i)).take (n + 1) = l[o + i] :: (l.drop (o + (i + 1))).take n := by
      rw [List.drop_eq_getElem_cons hlt]; rfl
    rw [this]; simp
theorem setCell_ob {b o : Nat} {l : List Value} {T : TypeId} (h : w.heap[b]? = some (ob l T)) (u : Value) : (w.setCell ⟨b, o, none⟩ u).heap[b]? = some (ob (l.set o u) T) := by
  simp only [World.setCell, Array.getElem?_modify]
  simp [h]
theorem store_ob {b o : Nat} {l : List Value} {T : TypeId} {u : Value} (h : w.heap[b]? = some (ob l T)) (ho : o < l.length) (hu : oneB u = true) : (store ⟨b, o, none⟩ u).run P w = .ok () (w.setCell ⟨b, o, none⟩ u) := by
  have hc : w.cell? ⟨b, o, none⟩ = some l[o] := cell_ob h (List.getElem?_eq_getElem ho)
  have hf : w.frozen? ⟨b, o, none⟩ = false := by unfold World.frozen?; rw [h]; simp
  unfold store
  cases u <;> first | (simp [oneB] at hu; done) | (simp only [Sem.run, hc, hf]; rfl)
end run

def setL (l : List Value) (o : Nat) : List Value → List Value
  | [] => l
  | v :: vs => setL (l.set o v) (o + 1) vs
theorem setL_length (l : List Value) (o : Nat) (vs : List Value) : (setL l o vs).length = l.length := by
  induction vs generalizing l o with
  | nil => rfl
  | cons v vs ih => rw [setL, ih]; simp

section ops
variable {P : Program} {ops : Array Oper} {Q : Exit → Act → World → Prop} {s : St} {E : Env} {M : Hp} {rest : List Oper} {d t : Nat} {pos : String} {af : Array Edge}

theorem L.val {op : Op} {v : Value} {M' : Hp} (hn : Nat.blt d s.n = true)
    (hrun : ∀ a w, Sat s E M a w → ∃ w', (execOp a.eval ⟨some d, op, t, pos, af, none⟩).run P w = .ok (.value v) w' ∧ At s.w0 s.A M' w')
    (k : L P ops Q rest s ((d, v) :: E) M') (hnd : ∀ c, op ≠ .defer c := by intro c h; cases h) : L P ops Q (⟨some d, op, t, pos, af, none⟩ :: rest) s E M := by
  intro a w hs
  obtain ⟨w', hr, hw⟩ := hrun a w hs
  refine wpListIn_plain rfl fun K hK => ⟨fun _ _ => trivial, ?_⟩
  rw [Oper.semAt_eq _ _ _ hnd, hr]
  exact hK _ _ (k _ _ (hs.put hn v hw))
theorem L.newB {op : Op} {f : Nat → Value} {o : Obj} (hn : Nat.blt d s.n = true)
    (hrun : ∀ a w, Sat s E M a w → (execOp a.eval ⟨some d, op, t, pos, af, none⟩).run P w = .ok (.value (f w.heap.size)) (w.alloc o))
    (k : ∀ b, L P ops Q rest s ((d, f b) :: E) ((b, o) :: M)) (hnd : ∀ c, op ≠ .defer c := by intro c h; cases h) : L P ops Q (⟨some d, op, t, pos, af, none⟩ :: rest) s E M := by
  intro a w hs
  refine wpListIn_plain rfl fun K hK => ⟨fun _ _ => trivial, ?_⟩
  rw [Oper.semAt_eq _ _ _ hnd, hrun a w hs]
  exact hK _ _ (k _ _ _ (hs.put hn _ (hs.at_.alloc o)))
theorem L.act {op : Op} {M' : Hp}
    (hrun : ∀ a w, Sat s E M a w → ∃ w', (execOp a.eval ⟨none, op, t, pos, af, none⟩).run P w = .ok .skip w' ∧ At s.w0 s.A M' w')
    (k : L P ops Q rest s E M') (hnd : ∀ c, op ≠ .defer c := by intro c h; cases h) : L P ops Q (⟨none, op, t, pos, af, none⟩ :: rest) s E M := by
  intro a w hs
  obtain ⟨w', hr, hw⟩ := hrun a w hs
  refine wpListIn_plain rfl fun K hK => ⟨fun _ _ => trivial, ?_⟩
  rw [Oper.semAt_eq _ _ _ hnd, hr]
  exact hK _ _ (k _ _ (hs.go _ hw))
/-- A guarded operation that is wanted. -/
theorem L.want {op : Op} {dd : Option Nat} {j e : Nat} {b : Bool} (hj : (ops[j]?).bind (·.dst) = some e := by exact rfl) (hv : lk E e = some (.bool b) := by exact rfl)
    (k : L P ops Q (⟨dd, op, t, pos, af, none⟩ :: rest) s E M) : L P ops Q (⟨dd, op, t, pos, af, some (j, b)⟩ :: rest) s E M := by
  intro a w hs
  have h := k a w hs
  have hw : Region.wanted ⟨dd, op, t, pos, af, some (j, b)⟩ (yielded ops a.tmps) = true := by
    unfold Region.wanted yielded
    simp only [hj, Option.bind_some, hs.env _ _ hv]; simp
  unfold wpListIn at h ⊢
  rw [if_pos hw]
  rw [if_pos (by rfl)] at h
  exact h
/-- A guarded operation that is not. -/
theorem L.pass {op : Op} {j e : Nat} {b c : Bool} (hn : Nat.blt d s.n = true := by exact rfl) (hj : (ops[j]?).bind (·.dst) = some e := by exact rfl) (hv : lk E e = some (.bool c) := by exact rfl) (hne : (c == b) = false := by exact rfl)
    (k : L P ops Q rest s ((d, undef) :: E) M) : L P ops Q (⟨some d, op, t, pos, af, some (j, b)⟩ :: rest) s E M := by
  intro a w hs
  have hw : Region.wanted ⟨some d, op, t, pos, af, some (j, b)⟩ (yielded ops a.tmps) = false := by
    unfold Region.wanted yielded
    simp only [hj, Option.bind_some, hs.env _ _ hv]
    cases b <;> cases c <;> first | rfl | cases hne
  unfold wpListIn
  rw [if_neg (by rw [hw]; decide)]
  exact ⟨fun _ _ => trivial, k _ _ (hs.put hn undef hs.at_)⟩
theorem L.move {x : Operand} {v : Value} (hn : Nat.blt d s.n = true := by exact rfl) (hx : ev E x = some v := by exact rfl) (k : L P ops Q rest s ((d, v) :: E) M) : L P ops Q (⟨some d, .move x, t, pos, af, none⟩ :: rest) s E M :=
  L.val hn (fun a w hs => ⟨w, by show (pure (Next.value (a.eval x)) : Sem Next).run P w = _; rw [hs.ev hx]; rfl, hs.at_⟩) k
theorem L.assign {x : Operand} {v : Value} (hn : Nat.blt d s.n = true := by exact rfl) (hx : ev E x = some v := by exact rfl) (k : L P ops Q rest s ((d, v) :: E) M) : L P ops Q (⟨some d, .assign x, t, pos, af, none⟩ :: rest) s E M :=
  L.val hn (fun a w hs => ⟨w, by show (pure (Next.value (a.eval x)) : Sem Next).run P w = _; rw [hs.ev hx]; rfl, hs.at_⟩) k
theorem L.pickT {c x y : Operand} {v : Value} (hn : Nat.blt d s.n = true := by exact rfl) (hc : ev E c = some (.bool true) := by exact rfl) (hx : ev E x = some v := by exact rfl) (k : L P ops Q rest s ((d, v) :: E) M) : L P ops Q (⟨some d, .pick c x y, t, pos, af, none⟩ :: rest) s E M :=
  L.val hn (fun a w hs => ⟨w, by
    show (do pure (Next.value (if ← asBool (a.eval c) then a.eval x else a.eval y)) : Sem Next).run P w = _
    rw [hs.ev hc, hs.ev hx]; rfl, hs.at_⟩) k
theorem L.pickF {c x y : Operand} {v : Value} (hn : Nat.blt d s.n = true := by exact rfl) (hc : ev E c = some (.bool false) := by exact rfl) (hy : ev E y = some v := by exact rfl) (k : L P ops Q rest s ((d, v) :: E) M) : L P ops Q (⟨some d, .pick c x y, t, pos, af, none⟩ :: rest) s E M :=
  L.val hn (fun a w hs => ⟨w, by
    show (do pure (Next.value (if ← asBool (a.eval c) then a.eval x else a.eval y)) : Sem Next).run P w = _
    rw [hs.ev hc, hs.ev hy]; rfl, hs.at_⟩) k
theorem L.nilCheck {x : Operand} {a : Addr} (hn : Nat.blt d s.n = true := by exact rfl) (hx : ev E x = some (.pointer (some a)) := by exact rfl) (k : L P ops Q rest s ((d, .pointer (some a)) :: E) M) : L P ops Q (⟨some d, .nilCheck x, t, pos, af, none⟩ :: rest) s E M :=
  L.val hn (fun b w hs => ⟨w, by
    unfold execOp; simp only [hs.ev hx]; rfl, hs.at_⟩) k

/-- Reckoning with whole numbers. -/
def ar (op : BinOp) (k : IntKind) (a b : Int) : Int :=
  match op with
  | .add => k.wrap (a + b)
  | .sub => k.wrap (a - b)
  | .mul => k.wrap (a * b)
  | .quo => k.wrap (a.tdiv b)
  | .rem => a.tmod b
  | .shl => k.wrap (a * 2 ^ (min b.toNat k.bits))
  | .shr => a.fdiv (2 ^ (min b.toNat k.bits))
  | op => bits op k a b
def arOk (op : BinOp) (k k' : IntKind) (b : Int) : Bool :=
  match op with
  | .add | .sub | .mul | .and | .or | .xor | .andNot => k == k'
  | .quo | .rem => k == k' && b != 0
  | .shl | .shr => decide (0 ≤ b)
  | _ => false
theorem ar_run {op : BinOp} {k k' : IntKind} {a b : Int} {T : TypeId} {x y : Operand} (h : arOk op k k' b = true) (w : World) :
    (do eqGuard op T x y (.int k a) (.int k' b); binOp op T (.int k a) (.int k' b) : Sem Value).run P w = .ok (.int k (ar op k a b)) w := by
  unfold arOk at h
  cases op <;> simp only at h <;> first | (cases h; done) | skip
  all_goals
    simp [eqGuard, binOp, ar, Op.intArith, Op.intDiv, Op.intBits, Op.shift, bits] at h ⊢
    try obtain ⟨rfl, h⟩ := h
    try subst h
    first
      | rfl
      | (simp [h]; done)
      | (simp [Int.not_lt.2 h]; done)
      | skip
def cmOk (op : BinOp) : Bool := match op with | .eql | .neq | .lss | .leq | .gtr | .geq => true | _ => false
def cm (op : BinOp) (a b : Int) : Bool :=
  match op with
  | .eql => a == b
  | .neq => a != b
  | .lss => decide (a < b)
  | .leq => decide (a ≤ b)
  | .gtr => decide (a > b)
  | .geq => decide (a ≥ b)
  | _ => false
theorem cm_run {op : BinOp} {k : IntKind} {a b : Int} {T : TypeId} {x y : Operand} (h : cmOk op = true) (w : World) :
    (do eqGuard op T x y (.int k a) (.int k b); binOp op T (.int k a) (.int k b) : Sem Value).run P w = .ok (.bool (cm op a b)) w := by
  cases op <;> first | (cases h; done) | skip
  all_goals simp [eqGuard, binOp, cm, Op.intCmp]
theorem L.ar {op : BinOp} {k k' : IntKind} {a b z : Int} {T T' : TypeId} {x y : Operand} (hn : Nat.blt d s.n = true := by exact rfl) (hx : ev E x = some (.int k a) := by exact rfl) (hy : ev E y = some (.int k' b) := by exact rfl) (ho : arOk op k k' b = true := by exact rfl) (hz : ar op k a b = z := by first | with_reducible assumption | rfl)
    (c : L P ops Q rest s ((d, .int k z) :: E) M) : L P ops Q (⟨some d, .binOp op T x y T', t, pos, af, none⟩ :: rest) s E M :=
  L.val hn (fun e w hs => ⟨w, by
    refine run_value ?_
    rw [hs.ev hx, hs.ev hy, ← hz]
    exact ar_run ho w, hs.at_⟩) c
theorem L.cm {op : BinOp} {k : IntKind} {a b : Int} {z : Bool} {T T' : TypeId} {x y : Operand} (hn : Nat.blt d s.n = true := by exact rfl) (hx : ev E x = some (.int k a) := by exact rfl) (hy : ev E y = some (.int k b) := by exact rfl) (ho : cmOk op = true := by exact rfl) (hz : cm op a b = z := by first | with_reducible assumption | rfl)
    (c : L P ops Q rest s ((d, .bool z) :: E) M) : L P ops Q (⟨some d, .binOp op T x y T', t, pos, af, none⟩ :: rest) s E M :=
  L.val hn (fun e w hs => ⟨w, by
    refine run_value ?_
    rw [hs.ev hx, hs.ev hy, ← hz]
    exact cm_run ho w, hs.at_⟩) c
theorem L.not {x : Operand} {b : Bool} {T : TypeId} (hn : Nat.blt d s.n = true := by exact rfl) (hx : ev E x = some (.bool b) := by exact rfl) (c : L P ops Q rest s ((d, .bool (!b)) :: E) M) : L P ops Q (⟨some d, .unOp .not T x, t, pos, af, none⟩ :: rest) s E M :=
  L.val hn (fun e w hs => ⟨w, by
    refine run_value ?_
    rw [hs.ev hx]; rfl, hs.at_⟩) c
/-- A value of which the operation only reckons: the result by its run. -/
theorem L.calm {op : Op} {v : Value} {S : (Operand → Value) → Sem Value} (hn : Nat.blt d s.n = true) (hS : ∀ ρ, execOp ρ ⟨some d, op, t, pos, af, none⟩ = (do pure (Next.value (← S ρ)) : Sem Next))
    (hrun : ∀ a w, Sat s E M a w → (S a.eval).run P w = .ok v w) (k : L P ops Q rest s ((d, v) :: E) M) (hnd : ∀ c, op ≠ .defer c := by intro c h; cases h) : L P ops Q (⟨some d, op, t, pos, af, none⟩ :: rest) s E M :=
  L.val hn (fun a w hs => ⟨w, by rw [hS]; exact run_value (hrun a w hs), hs.at_⟩) k hnd
theorem L.convI {x : Operand} {k k' : IntKind} {n z : Int} {T T' : TypeId} {ds : TypeDesc} [Und P T ds] [Und P T' (.int k)] (hn : Nat.blt d s.n = true := by exact rfl) (hx : ev E x = some (.int k' n) := by exact rfl) (hz : k.wrap n = z := by exact rfl)
    (c : L P ops Q rest s ((d, .int k z) :: E) M) : L P ops Q (⟨some d, .convert T T' x, t, pos, af, none⟩ :: rest) s E M :=
  L.calm (S := fun ρ => convert T T' (ρ x)) hn (fun _ => rfl) (fun a w hs => by
    show (convert T T' (a.eval x)).run P w = _
    rw [hs.ev hx, ← hz]
    unfold convert
    rw [run_bind_ok und_run, run_bind_ok und_run]
    cases ds <;> rfl) c
theorem L.extract {x : Operand} {vs : Array Value} {i : Nat} {v : Value} (hn : Nat.blt d s.n = true := by exact rfl) (hx : ev E x = some (.tuple vs) := by exact rfl) (hv : vs.toList[i]? = some v := by exact rfl)
    (c : L P ops Q rest s ((d, v) :: E) M) : L P ops Q (⟨some d, .extract x i, t, pos, af, none⟩ :: rest) s E M :=
  L.calm (S := fun ρ => Instr.extract (ρ x) i) hn (fun _ => rfl) (fun a w hs => by
    show (Instr.extract (a.eval x) i).run P w = _
    rw [hs.ev hx]
    unfold Instr.extract
    rw [Array.getElem?_toList] at hv
    simp [hv]) c
theorem L.fieldAddr {x : Operand} {S f b o o' : Nat} [h : Fld P S f o'] (hn : Nat.blt d s.n = true := by exact rfl) (hx : ev E x = some (.pointer (some ⟨b, o, none⟩)) := by exact rfl)
    (c : L P ops Q rest s ((d, .pointer (some ⟨b, o + o', none⟩)) :: E) M) : L P ops Q (⟨some d, .fieldAddr S x f, t, pos, af, none⟩ :: rest) s E M :=
  L.calm (S := fun ρ => Instr.fieldAt S (ρ x) f) hn (fun _ => rfl) (fun a w hs => by
    show (Instr.fieldAt S (a.eval x) f).run P w = _
    rw [hs.ev hx]
    obtain ⟨fs, g, h1, h2, h3, n, h4⟩ := h.out
    have hu : Und P S (.struct fs) := ⟨h1⟩
    unfold Instr.fieldAt
    rw [run_bind_ok und_run]
    simp only [h2]
    show Sem.run P (do pure (Value.pointer (some (← fieldPlace ⟨b, o, none⟩ g)))) w = _
    unfold fieldPlace
    rw [run_bind_ok (run_bind_ok (siz_run h4))]
    rw [add_at, h3]; rfl) c
theorem L.load1 (i : Nat) {x : Operand} {T T' b o : Nat} {l : List Value} {v : Value} {ds : TypeDesc} [Und P T ds] (hn : Nat.blt d s.n = true := by exact rfl) (hx : ev E x = some (.pointer (some ⟨b, o, none⟩)) := by exact rfl) (hi : hat M i = some (b, ob l T') := by exact rfl)
    (hg : aggB ds = false := by exact rfl) (hv : l[o]? = some v := by exact rfl) (c : L P ops Q rest s ((d, v) :: E) M) : L P ops Q (⟨some d, .load T x, t, pos, af, none⟩ :: rest) s E M :=
  L.calm (S := fun ρ => Instr.loadAt T (ρ x)) hn (fun _ => rfl) (fun a w hs => by
    show (Instr.loadAt T (a.eval x)).run P w = _
    rw [hs.ev hx]
    unfold Instr.loadAt Instr.sureAddr loadVar
    show Sem.run P (do if ← isAgg T then pure (.agg (← loadCells ⟨b, o, none⟩ (← sizeOf T))) else load ⟨b, o, none⟩) w = _
    rw [run_bind_ok agg_run, hg]
    exact load_ob (hs.at_.holds _ (hat_mem hi)) hv) c
theorem L.loadA (i : Nat) {x : Operand} {T T' b o n : Nat} {l : List Value} {ds : TypeDesc} [Und P T ds] [hz : Siz P T n] (hn : Nat.blt d s.n = true := by exact rfl) (hx : ev E x = some (.pointer (some ⟨b, o, none⟩)) := by exact rfl) (hi : hat M i = some (b, ob l T') := by exact rfl)
    (hg : aggB ds = true := by exact rfl) (hv : Nat.ble (o + n) l.length = true := by exact rfl) {l' : List Value} (hl : (l.drop o).take n = l' := by simp only [List.drop_zero, List.drop_succ_cons, List.take_succ_cons, List.take_zero, List.take_nil]; rfl) (c : L P ops Q rest s ((d, .agg l'.toArray) :: E) M) : L P ops Q (⟨some d, .load T x, t, pos, af, none⟩ :: rest) s E M :=
  L.calm (S := fun ρ => Instr.loadAt T (ρ x)) hn (fun _ => rfl) (fun a w hs => by
    show (Instr.loadAt T (a.eval x)).run P w = _
    rw [hs.ev hx]
    unfold Instr.loadAt Instr.sureAddr loadVar
    show Sem.run P (do if ← isAgg T then pure (.agg (← loadCells ⟨b, o, none⟩ (← sizeOf T))) else load ⟨b, o, none⟩) w = _
    rw [run_bind_ok agg_run, hg]
    show Sem.run P (do pure (Value.agg (← loadCells ⟨b, o, none⟩ (← sizeOf T)))) w = _
    rw [run_bind_ok (siz_run hz.out)]
    show Sem.run P (do pure (Value.agg (← loadCellsFrom ⟨b, o, none⟩ 0 n #[]))) w = _
    rw [run_bind_ok (loadCells_ob (hs.at_.holds (b, ob l T') (hat_mem hi)) n 0 #[] (by simpa using Nat.le_of_ble_eq_true hv))]
    rw [← hl]; simp) c
theorem At.set {w0 : World} {A : List Nat} {w : World} {i b o : Nat} {l : List Value} {T : TypeId} (h : At w0 A M w) (hi : hat M i = some (b, ob l T)) (u : Value) : At w0 A (hset M i (ob (l.set o u) T)) (w.setCell ⟨b, o, none⟩ u) :=
  h.turn hi rfl rfl rfl (by simp [World.setCell]) (setCell_ob (h.holds _ (hat_mem hi)) u) (fun k hk => Below.heap_setCell _ _ _ _ hk)
theorem hat_hset : ∀ {M : Hp} {i b : Nat} {o o' : Obj}, hat M i = some (b, o) → hat (hset M i o') i = some (b, o')
  | [], _, _, _, _, h => by cases h
  | x :: r, 0, _, _, _, h => by cases h; rfl
  | x :: r, i + 1, _, _, _, h => hat_hset (M := r) h
theorem hset_twice : ∀ (M : Hp) (i : Nat) (o o' : Obj), hset (hset M i o) i o' = hset M i o'
  | [], _, _, _ => rfl
  | x :: r, 0, _, _ => rfl
  | x :: r, i + 1, o, o' => by simp only [hset]; rw [hset_twice r]
theorem hset_same : ∀ {M : Hp} {i b : Nat} {o : Obj}, hat M i = some (b, o) → hset M i o = M
  | [], _, _, _, h => by cases h
  | x :: r, 0, _, _, h => by cases h; rfl
  | x :: r, i + 1, _, _, h => by simp only [hset]; rw [hset_same (M := r) h]
theorem storeCells_ob {w0 : World} {A : List Nat} {i b o : Nat} {T : TypeId} : ∀ (vs : List Value) (j : Nat) {M : Hp} {w : World} {l : List Value}, At w0 A M w → hat M i = some (b, ob l T) → o + j + vs.length ≤ l.length → vs.all oneB = true →
    ∃ w', (storeCells ⟨b, o, none⟩ vs j).run P w = .ok () w' ∧ At w0 A (hset M i (ob (setL l (o + j) vs) T)) w'
  | [], j, M, w, l, h, hi, _, _ => ⟨w, rfl, by rw [setL, hset_same hi]; exact h⟩
  | v :: vs, j, M, w, l, h, hi, hl, ho => by
    simp only [List.all_cons, Bool.and_eq_true, List.length_cons] at ho hl
    have hs := store_ob (P := P) (h.holds _ (hat_mem hi)) (o := o + j) (by omega) ho.1
    obtain ⟨w', h1, h2⟩ := storeCells_ob vs (j + 1) (o := o) (At.set h hi (o := o + j) v) (hat_hset hi) (by rw [List.length_set]; omega) ho.2
    refine ⟨w', ?_, ?_⟩
    · unfold storeCells
      rw [add_at, run_bind_ok hs]; exact h1
    · rw [hset_twice] at h2
      rw [setL]; exact h2
theorem L.storeV (i : Nat) {x y : Operand} {T T' b o n : Nat} {l : List Value} {v : Value} {vs l' : List Value} [hz : Siz P T n] (hx : ev E x = some (.pointer (some ⟨b, o, none⟩)) := by exact rfl) (hy : ev E y = some v := by exact rfl) (hi : hat M i = some (b, ob l T') := by exact rfl)
    (hc : v.cells = vs.toArray := by exact rfl) (hlen : vs.length = n := by exact rfl) (ho : vs.all oneB = true := by exact rfl) (hb : Nat.ble (o + n) l.length = true := by exact rfl) (hl : setL l o vs = l' := by simp only [setL, Nat.zero_add, List.set_cons_zero, List.set_cons_succ]; rfl) {M' : Hp} (hM : hset M i (ob l' T') = M' := by simp only [hset]; rfl)
    (c : L P ops Q rest s E M') : L P ops Q (⟨none, .store T x y, t, pos, af, none⟩ :: rest) s E M :=
  L.act (fun a w hs => by
    have hb' := Nat.le_of_ble_eq_true hb
    obtain ⟨w', h1, h2⟩ := storeCells_ob (P := P) (o := o) vs 0 hs.at_ hi (by omega) ho
    refine ⟨w', ?_, by rw [← hM, ← hl]; exact h2⟩
    refine run_skip (s := Instr.storeAt T (a.eval x) (a.eval y)) ?_
    rw [hs.ev hx, hs.ev hy]
    show Sem.run P (storeVar T ⟨b, o, none⟩ v) w = _
    unfold storeVar
    rw [run_bind_ok (siz_run hz.out), hc]
    simp [hlen, h1]) c
theorem L.alloc {T : Nat} {z : Value} {l : List Value} [hz : Zer P T z l] (hn : Nat.blt d s.n = true := by exact rfl)
    (c : ∀ b, L P ops Q rest s ((d, .pointer (some ⟨b, 0, none⟩)) :: E) ((b, ob l T) :: M)) : L P ops Q (⟨some d, .alloc T, t, pos, af, none⟩ :: rest) s E M :=
  L.newB (f := fun b => .pointer (some ⟨b, 0, none⟩)) hn (fun a w hs => by
    refine run_value (s := Instr.alloc T true (.tuple #[])) ?_
    unfold Instr.alloc
    rw [run_bind_ok (zer_run hz.out)]
    show Sem.run P (do pure (Value.pointer (some (← newVar T z)))) w = _
    unfold newVar newRow newObj
    rw [hz.cells]
    rfl) c
theorem L.box {T : Nat} {x : Operand} {v : Value} {l : List Value} (hn : Nat.blt d s.n = true := by exact rfl) (hx : ev E x = some v := by exact rfl) (hc : v.cells = l.toArray := by exact rfl)
    (c : ∀ b, L P ops Q rest s ((d, .pointer (some ⟨b, 0, none⟩)) :: E) ((b, ob l T) :: M)) : L P ops Q (⟨some d, .box T x, t, pos, af, none⟩ :: rest) s E M :=
  L.newB (f := fun b => .pointer (some ⟨b, 0, none⟩)) hn (fun a w hs => by
    refine run_value (s := Instr.box T (a.eval x)) ?_
    rw [hs.ev hx]
    unfold Instr.box newVar newRow newObj
    rw [hc]
    rfl) c
end ops
end Go.Proofs.Ytbackpcohkblfaa.SL

/- The separation logic's rules for calls and returns. No program in sight. -/
namespace Go.Proofs.Ytbackpcohkblfaa.SL
open Go Go.RowKit

/-- What a call answers: a value, and what it owns behind. -/
def Post (w : World) (A : List Nat) (R : Value → Hp → Prop) : Ending → World → Prop := fun e w' => ∃ v B, e = .returned v ∧ R v B ∧ At w A B w'
/-- A contract: arguments; own blocks ahead; what else is asked of the world; what is answered. -/
def Ctr (P : Program) (f : FuncId) (args : List Value) (A : Hp) (pre : World → Prop) (R : Value → Hp → Prop) : Prop :=
  ∀ w, (keys A).Nodup → (∀ x ∈ A, w.heap[x.1]? = some x.2) → pre w → Calls P f args.toArray w (Post w (keys A) R)
/-- The plain answer. -/
def is (v : Value) (B : Hp) : Value → Hp → Prop := fun u C => u = v ∧ C = B
def tt : World → Prop := fun _ => True
class Fun (P : Program) (f : FuncId) : Prop where
  out : ∃ fn, P.funcs[f]? = some fn ∧ (fn.name == "runtime.NumGoroutine") = false ∧ fn.body.isNone = false

section
variable {P : Program} {ops : Array Oper} {Q : Exit → Act → World → Prop} {s : St} {E : Env} {M : Hp} {rest : List Oper} {d t : Nat} {pos : String} {af : Array Edge}

theorem Ctr.mono {f : FuncId} {args : List Value} {A : Hp} {pre : World → Prop} {R R' : Value → Hp → Prop} (h : Ctr P f args A pre R) (hr : ∀ v B, R v B → R' v B) : Ctr P f args A pre R' :=
  fun w h1 h2 h3 => (h w h1 h2 h3).mono fun _ _ ⟨v, B, h4, h5, h6⟩ => ⟨v, B, h4, hr v B h5, h6⟩
theorem evs_map {a : Act} {w : World} (hs : Sat s E M a w) : ∀ {xs : List Operand} {vs : List Value}, evs E xs = some vs → xs.map a.eval = vs
  | [], vs, h => by cases h; rfl
  | x :: xs, vs, h => by
    unfold evs at h
    split at h
    · cases h
    · rename_i v hv
      split at h
      · cases h
      · rename_i us hu
        cases h
        rw [List.map_cons, hs.ev hv, evs_map hs hu]
theorem callFunc_enter {f : FuncId} [h : Fun P f] (args : Array Value) (w : World) : (callFunc f args).run P w = .ok (.enter f args) w := by
  obtain ⟨fn, h1, h2, h3⟩ := h.out
  unfold callFunc program
  simp only [Sem.run_bind, Sem.run, Result.andThen]
  rw [h1]
  simp only [h2, h3]
  rfl
theorem calls_fen {ro : Option Nat} {n : Nat} {f : FuncId} {args : Array Value} {w : World} {R : Ending → World → Prop} (h : Calls P f args w R) : CallsIn (fen ro) n P f args w R := (callsIn_wide (n := n)).2 h
/-- A call of the program's function f. -/
theorem L.enter {op : Op} {f : FuncId} {vs : List Value} {A : Hp} {pre : World → Prop} {R : Value → Hp → Prop} (is : List Nat) (hn : Nat.blt d s.n = true) (hp : hpick M is = some A) (hi : is.Nodup)
    (hrun : ∀ a w, Sat s E M a w → (execOp a.eval ⟨some d, op, t, pos, af, none⟩).run P w = .ok (.enter f vs.toArray) w)
    (spec : Ctr P f vs A pre R) (hpre : ∀ w, At s.w0 s.A M w → pre w) (k : ∀ v B, R v B → L P ops Q rest s ((d, v) :: E) (B ++ hdrop M is 0)) (hnd : ∀ c, op ≠ .defer c := by intro c h; cases h) :
    L P ops Q (⟨some d, op, t, pos, af, none⟩ :: rest) s E M := by
  intro a w hs
  refine wpListIn_plain rfl fun K hK => ⟨fun _ _ => trivial, ?_⟩
  rw [Oper.semAt_eq _ _ _ hnd, hrun a w hs]
  have hB := hs.at_.pick hi hp
  refine ⟨(fun h => by cases h), calls_fen ?_⟩
  refine (spec w hB.nodup hB.holds (hpre w hs.at_)).mono ?_
  rintro e w' ⟨v, B, rfl, hr, hw⟩
  exact hK _ _ (k v B hr _ _ (hs.put hn v (hs.at_.frame hp hw)))
theorem L.enter0 {op : Op} {f : FuncId} {vs : List Value} {A : Hp} {pre : World → Prop} {R : Value → Hp → Prop} (is : List Nat) (hp : hpick M is = some A) (hi : is.Nodup)
    (hrun : ∀ a w, Sat s E M a w → (execOp a.eval ⟨none, op, t, pos, af, none⟩).run P w = .ok (.enter f vs.toArray) w)
    (spec : Ctr P f vs A pre R) (hpre : ∀ w, At s.w0 s.A M w → pre w) (k : ∀ v B, R v B → L P ops Q rest s E (B ++ hdrop M is 0)) (hnd : ∀ c, op ≠ .defer c := by intro c h; cases h) :
    L P ops Q (⟨none, op, t, pos, af, none⟩ :: rest) s E M := by
  intro a w hs
  refine wpListIn_plain rfl fun K hK => ⟨fun _ _ => trivial, ?_⟩
  rw [Oper.semAt_eq _ _ _ hnd, hrun a w hs]
  have hB := hs.at_.pick hi hp
  refine ⟨(fun h => by cases h), calls_fen ?_⟩
  refine (spec w hB.nodup hB.holds (hpre w hs.at_)).mono ?_
  rintro e w' ⟨v, B, rfl, hr, hw⟩
  exact hK _ _ (k v B hr _ _ (hs.go v (hs.at_.frame hp hw)))
theorem call_run {f : FuncId} [Fun P f] {dd : Option Nat} {g : Operand} {xs : List Operand} {ts : Array TypeId} {vs cs fs : List Value} {a : Act} {w : World} (hs : Sat s E M a w) (hg : ev E g = some (.func (.func f) fs.toArray cs.toArray)) (hx : evs E xs = some vs) :
    (execOp a.eval ⟨dd, .call { callee := .value g, args := xs.toArray, argTypes := ts }, t, pos, af, none⟩).run P w = .ok (.enter f (fs ++ vs ++ cs).toArray) w := by
  show Sem.run P (do let d ← resolve a.eval { callee := .value g, args := xs.toArray, argTypes := ts } t; invoke d.target d.args) w = _
  unfold resolve
  simp only [List.map_toArray, evs_map hs hx, hs.ev hg]
  show Sem.run P (callFunc f ((fs.toArray ++ vs.toArray) ++ cs.toArray)) w = _
  rw [callFunc_enter]; simp
theorem L.call {f : FuncId} [Fun P f] {g : Operand} {xs : List Operand} {ts : Array TypeId} {vs cs fs : List Value} {A : Hp} {pre : World → Prop} {R : Value → Hp → Prop} (is : List Nat) (hn : Nat.blt d s.n = true) (hg : ev E g = some (.func (.func f) fs.toArray cs.toArray)) (hx : evs E xs = some vs)
    (hp : hpick M is = some A) (hi : is.Nodup) (spec : Ctr P f (fs ++ vs ++ cs) A pre R) (hpre : ∀ w, At s.w0 s.A M w → pre w) (k : ∀ v B, R v B → L P ops Q rest s ((d, v) :: E) (B ++ hdrop M is 0)) :
    L P ops Q (⟨some d, .call { callee := .value g, args := xs.toArray, argTypes := ts }, t, pos, af, none⟩ :: rest) s E M :=
  L.enter is hn hp hi (fun _ _ hs => call_run hs hg hx) spec hpre k
theorem L.callP {f : FuncId} [Fun P f] {xs : List Operand} {ts : Array TypeId} {vs : List Value} {A : Hp} {pre : World → Prop} {R : Value → Hp → Prop} (is : List Nat) (spec : Ctr P f vs A pre R) (hn : Nat.blt d s.n = true := by exact rfl) (hx : evs E xs = some vs := by exact rfl)
    (hp : hpick M is = some A := by exact rfl) (hi : is.Nodup := by decide) (hpre : ∀ w, At s.w0 s.A M w → pre w := by exact fun _ _ => trivial) (k : ∀ v B, R v B → L P ops Q rest s ((d, v) :: E) (B ++ hdrop M is 0)) :
    L P ops Q (⟨some d, .call { callee := .value (.func f), args := xs.toArray, argTypes := ts }, t, pos, af, none⟩ :: rest) s E M :=
  L.enter is hn hp hi (fun _ _ hs => by have := call_run (P := P) (t := t) (pos := pos) (af := af) (dd := some d) (ts := ts) (fs := []) (cs := []) hs (g := .func f) rfl hx; simpa using this) spec hpre k
/-- The plain form: one answer. -/
theorem L.callI {f : FuncId} [Fun P f] {xs : List Operand} {ts : Array TypeId} {vs : List Value} {A B M' : Hp} {v : Value} {pre : World → Prop} (is' : List Nat) (spec : Ctr P f vs A pre (is v B)) (hn : Nat.blt d s.n = true) (hx : evs E xs = some vs)
    (hp : hpick M is' = some A) (hi : is'.Nodup) (hpre : ∀ w, At s.w0 s.A M w → pre w) (hM : B ++ hdrop M is' 0 = M') (k : L P ops Q rest s ((d, v) :: E) M') :
    L P ops Q (⟨some d, .call { callee := .value (.func f), args := xs.toArray, argTypes := ts }, t, pos, af, none⟩ :: rest) s E M :=
  L.callP is' spec hn hx hp hi hpre (fun u C hr => by obtain ⟨rfl, rfl⟩ := hr; rw [hM]; exact k)

theorem hdrop_nil : ∀ (M : Hp) (k : Nat), hdrop M [] k = M
  | [], _ => rfl
  | x :: r, k => by unfold hdrop; simp only [List.contains_nil]; rw [hdrop_nil r]
theorem hdrop_has : ∀ {M : Hp} {i k j : Nat} {x : Nat × Obj}, hat M j = some x → k + j ≠ i → x ∈ hdrop M [i] k
  | [], _, _, _, _, h, _ => by cases h
  | y :: r, i, k, 0, x, h, hne => by
    cases h
    unfold hdrop
    have : [i].contains k = false := by simp; omega
    rw [this]; exact List.mem_cons_self
  | y :: r, i, k, j + 1, x, h, hne => by
    unfold hdrop
    have h' := hdrop_has (M := r) (i := i) (k := k + 1) (j := j) h (by omega)
    split
    · exact h'
    · exact List.mem_cons_of_mem _ h'
theorem mem_hat : ∀ {M : Hp} {x : Nat × Obj}, x ∈ M → ∃ j, hat M j = some x
  | y :: r, x, h => by
    rcases List.mem_cons.1 h with rfl | h
    · exact ⟨0, rfl⟩
    · obtain ⟨j, hj⟩ := mem_hat h; exact ⟨j + 1, hj⟩
theorem At.one {w0 : World} {A : List Nat} {w : World} {i b : Nat} {o o' : Obj} (hn : (keys M).Nodup) (hi : hat M i = some (b, o)) (h : At w0 A ([(b, o')] ++ hdrop M [i] 0) w) : At w0 A (hset M i o') w := by
  have hm : ∀ x ∈ hset M i o', x ∈ [(b, o')] ++ hdrop M [i] 0 := by
    intro x hx
    rcases hset_mem hi x hx with rfl | ⟨hx, hne⟩
    · exact List.mem_append_left _ List.mem_cons_self
    · obtain ⟨j, hj⟩ := mem_hat hx
      refine List.mem_append_right _ (hdrop_has hj (fun e => hne hn ?_))
      rw [Nat.zero_add] at e; subst e
      rw [hi] at hj; cases hj; rfl
  exact ⟨h.keeps, by rw [hset_keys]; exact hn, fun x hx => h.mine x (hm x hx), fun x hx => h.holds x (hm x hx)⟩
/-- A call that owns nothing. -/
theorem L.callQ {f : FuncId} [Fun P f] {xs : List Operand} {ts : Array TypeId} {vs : List Value} {v : Value} {pre : World → Prop} (spec : Ctr P f vs [] pre (is v [])) (hn : Nat.blt d s.n = true := by exact rfl) (hx : evs E xs = some vs := by exact rfl)
    (hpre : ∀ w, At s.w0 s.A M w → pre w := by exact fun _ _ => trivial) (k : L P ops Q rest s ((d, v) :: E) M) :
    L P ops Q (⟨some d, .call { callee := .value (.func f), args := xs.toArray, argTypes := ts }, t, pos, af, none⟩ :: rest) s E M :=
  L.callP [] spec hn hx rfl (by decide) hpre (fun u C hr => by obtain ⟨rfl, rfl⟩ := hr; rw [hdrop_nil]; exact k)
/-- A call that turns one block. -/
theorem L.call1 {f b : Nat} {o o' : Obj} [Fun P f] {xs : List Operand} {ts : Array TypeId} {vs : List Value} {M' : Hp} {v : Value} {pre : World → Prop} (i : Nat) (spec : Ctr P f vs [(b, o)] pre (is v [(b, o')])) (hn : Nat.blt d s.n = true := by exact rfl) (hx : evs E xs = some vs := by exact rfl)
    (hi : hat M i = some (b, o) := by exact rfl) (hpre : ∀ w, At s.w0 s.A M w → pre w := by exact fun _ _ => trivial) (hM : hset M i o' = M' := by simp only [hset]; rfl) (k : L P ops Q rest s ((d, v) :: E) M') :
    L P ops Q (⟨some d, .call { callee := .value (.func f), args := xs.toArray, argTypes := ts }, t, pos, af, none⟩ :: rest) s E M := by
  intro a w hs
  have hp : hpick M [i] = some [(b, o)] := by unfold hpick hpick; rw [hi]
  have := L.callP (P := P) (ops := ops) (Q := Q) (s := s) (E := E) (M := M) (rest := rest) (d := d) (t := t) (pos := pos) (af := af) (ts := ts) [i] spec hn hx hp (by simp) hpre (fun u C hr a w hs' => by
    obtain ⟨rfl, rfl⟩ := hr
    have hN : (keys M).Nodup := hs.at_.nodup
    exact k a w ⟨by rw [← hM]; exact At.one hN hi hs'.at_, hs'.defers, hs'.size, hs'.env⟩)
  exact this a w hs

/-- A function's results. -/
def RV (P : Program) (E : Env) (M : Hp) : List ResultVar → List Value → Prop
  | [], [] => True
  | .tmp i :: rs, v :: vs => lk E i = some v ∧ RV P E M rs vs
  | .cell i T :: rs, v :: vs => (∃ j b l T' ds n, lk E i = some (.pointer (some ⟨b, 0, none⟩)) ∧ hat M j = some (b, ob l T') ∧ P.underlying T = some ds ∧ (P.info? T).map (·.size) = some n ∧
      (aggB ds = true ∧ n = l.length ∧ v = .agg l.toArray ∨ aggB ds = false ∧ l[0]? = some v)) ∧ RV P E M rs vs
  | _, _ => False
def shut (vs : List Value) : Value := match vs with
  | [v] => v
  | vs => .tuple vs.toArray
def rvGet (a : Act) : ResultVar → Sem Value
  | .tmp t => pure (a.tmps.getD t undef)
  | .cell b t => do loadVar t (← asAddr (a.tmps.getD b undef))
theorem results_eq (fn : Func) (a : Act) : results fn a.tmps = (do let vs ← fn.results.mapM (rvGet a); pure (if h : vs.size = 1 then vs[0] else .tuple vs)) := by
  have e : (fun | .tmp t => pure (a.tmps.getD t undef) | .cell b t => do loadVar t (← asAddr (a.tmps.getD b undef)) : ResultVar → Sem Value) = rvGet a := by funext x; cases x <;> rfl
  rw [← e]; rfl
theorem rv_run {a : Act} {w : World} (hs : Sat s E M a w) : ∀ {rs : List ResultVar} {vs : List Value}, RV P E M rs vs →
    (rs.mapM (rvGet a)).run P w = .ok vs w
  | [], [], _ => rfl
  | [], _ :: _, h => by cases h
  | .tmp i :: rs, [], h => by cases h
  | .cell i T :: rs, [], h => by cases h
  | .tmp i :: rs, v :: vs, ⟨h1, h2⟩ => by
    rw [List.mapM_cons]
    have e : a.tmps.getD i undef = v := hs.ev (x := .tmp i) h1
    simp only [rvGet, e]
    show Sem.run P (do let us ← rs.mapM _; pure (v :: us)) w = _
    rw [run_bind_ok (rv_run hs h2)]; rfl
  | .cell i T :: rs, v :: vs, ⟨⟨j, b, l, T', ds, n, h1, h3, h4, h5, h6⟩, h2⟩ => by
    rw [List.mapM_cons]
    have e : a.tmps.getD i undef = .pointer (some ⟨b, 0, none⟩) := hs.ev (x := .tmp i) h1
    have hu : Und P T ds := ⟨h4⟩
    have hh := hs.at_.holds (b, ob l T') (hat_mem h3)
    simp only [rvGet, e]
    have hl : (do loadVar T (← asAddr (.pointer (some ⟨b, 0, none⟩))) : Sem Value).run P w = .ok v w := by
      show Sem.run P (loadVar T ⟨b, 0, none⟩) w = _
      unfold loadVar
      rw [run_bind_ok agg_run]
      rcases h6 with ⟨hg, h6⟩ | ⟨hg, h6⟩
      · rw [hg]
        show Sem.run P (do pure (Value.agg (← loadCells ⟨b, 0, none⟩ (← sizeOf T)))) w = _
        rw [run_bind_ok (siz_run h5)]
        show Sem.run P (do pure (Value.agg (← loadCellsFrom ⟨b, 0, none⟩ 0 n #[]))) w = _
        rw [run_bind_ok (loadCells_ob hh n 0 #[] (by omega))]
        rw [h6.1, h6.2]; simp
      · rw [hg]
        exact load_ob hh h6
    rw [run_bind_ok hl]
    rw [run_bind_ok (rv_run hs h2)]; rfl
theorem RV.nil : RV P E M [] [] := trivial
theorem RV.tmp {i : Nat} {rs : List ResultVar} {v : Value} {vs : List Value} (h : lk E i = some v) (hr : RV P E M rs vs) : RV P E M (.tmp i :: rs) (v :: vs) := ⟨h, hr⟩
theorem RV.cellA {i T b T' n : Nat} {l : List Value} {v : Value} {ds : TypeDesc} [hu : Und P T ds] [hz : Siz P T n] {rs : List ResultVar} {vs : List Value} (j : Nat) (h1 : lk E i = some (.pointer (some ⟨b, 0, none⟩))) (h2 : hat M j = some (b, ob l T')) (hg : aggB ds = true) (hn : n = l.length)
    (hv : v = .agg l.toArray) (hr : RV P E M rs vs) : RV P E M (.cell i T :: rs) (v :: vs) := ⟨⟨j, b, l, T', ds, n, h1, h2, hu.out, hz.out, .inl ⟨hg, hn, hv⟩⟩, hr⟩
theorem RV.cell1 {i T b T' n : Nat} {l : List Value} {v : Value} {ds : TypeDesc} [hu : Und P T ds] [hz : Siz P T n] {rs : List ResultVar} {vs : List Value} (j : Nat) (h1 : lk E i = some (.pointer (some ⟨b, 0, none⟩))) (h2 : hat M j = some (b, ob l T')) (hg : aggB ds = false)
    (hv : l[0]? = some v) (hr : RV P E M rs vs) : RV P E M (.cell i T :: rs) (v :: vs) := ⟨⟨j, b, l, T', ds, n, h1, h2, hu.out, hz.out, .inr ⟨hg, hv⟩⟩, hr⟩
theorem results_run {fn : Func} {rs : List ResultVar} (hr : fn.results = rs.toArray) {vs : List Value} {a : Act} {w : World} (hs : Sat s E M a w) (h : RV P E M rs vs) : (results fn a.tmps).run P w = .ok (shut vs) w := by
  rw [results_eq, hr]
  have := rv_run (P := P) hs h
  simp only [List.mapM_toArray]
  rw [run_bind_ok (x := vs.toArray) (w' := w) ?_]
  · match vs with
    | [] => rfl
    | [v] => rfl
    | v :: u :: r => rfl
  · show Sem.run P (List.toArray <$> _) w = _
    rw [← bind_pure_comp, run_bind_ok this]; rfl
/-- The function's end. -/
theorem D.ret {fn : Func} {R : Ending → World → Prop} {vs : List Value} (h : RV P E M fn.results.toList vs) (hR : ∀ w, At s.w0 s.A M w → R (.returned (shut vs)) w) (hdl : s.dl = [] := by rfl) : D (bodyPost P fn R) .ret s E M :=
  fun _ w hs => ⟨hs.defers.trans hdl, shut vs, results_run (rs := fn.results.toList) (by simp) hs h, hR w hs.at_⟩
theorem D.fin {fn : Func} {R : Ending → World → Prop} {vs : List Value} (h : RV P E M fn.results.toList vs) (hR : ∀ w, At s.w0 s.A M w → R (.returned (shut vs)) w) (hdl : s.dl = [] := by rfl) : D (bodyPost P fn R) .normal s E M :=
  fun _ w hs => ⟨hs.defers.trans hdl, shut vs, results_run (rs := fn.results.toList) (by simp) hs h, hR w hs.at_⟩
/-- At the end of a contract's proof. -/
theorem Post.mk {w0 w : World} {A : List Nat} {R : Value → Hp → Prop} {v : Value} {B : Hp} {is : List Nat} (h : At w0 A M w) (hi : is.Nodup) (hp : hpick M is = some B) (hr : R v B) : Post w0 A R (.returned v) w := ⟨v, B, rfl, hr, h.pick hi hp⟩
def env0 : List Value → Nat → Env
  | [], _ => []
  | v :: vs, i => (i, v) :: env0 vs (i + 1)
theorem env0_get : ∀ {vs : List Value} {i j : Nat} {v : Value}, lk (env0 vs i) j = some v → i ≤ j ∧ vs[j - i]? = some v
  | [], _, _, _, h => by cases h
  | u :: vs, i, j, v, h => by
    rcases lk_put h with ⟨rfl, rfl⟩ | ⟨hne, h⟩
    · exact ⟨Nat.le_refl _, by simp⟩
    · obtain ⟨h1, h2⟩ := env0_get h
      refine ⟨by omega, ?_⟩
      rw [show j - i = (j - (i + 1)) + 1 by omega]; exact h2
/-- A function's body, from its contract's beginning. -/
theorem Ctr.enter {f n : Nat} {fn : Func} {c : Code} {args : List Value} {A : Hp} {pre : World → Prop} {R : Value → Hp → Prop} (hf : P.funcs[f]? = some fn) (hnt : fn.ntmps = n) (hb : fn.body = some c) (hlen : Nat.ble args.length n = true)
    (h : ∀ w, pre w → C P c (bodyPost P fn (Post w (keys A) R)) { w0 := w, A := keys A, n := n } (env0 args 0) A) : Ctr P f args A pre R := by
  subst hnt
  intro w h1 h2 h3
  refine calls_of_wp hf hb (wpIn_wide (n := 0).1 ?_)
  have hl := Nat.le_of_ble_eq_true hlen
  refine h w h3 _ w ⟨At.own h1 h2, rfl, by simp; omega, fun i v hi => ?_⟩
  obtain ⟨_, h4⟩ := env0_get hi
  rw [Nat.sub_zero] at h4
  have hlt : i < args.length := by
    rcases Nat.lt_or_ge i args.length with h | h
    · exact h
    · rw [List.getElem?_eq_none h] at h4; cases h4
  simp only [List.size_toArray]
  rw [Array.getElem?_append_left (by simpa using hlt)]
  simpa using h4
end
end Go.Proofs.Ytbackpcohkblfaa.SL

/- The separation logic's rules for structs, strings and the like. No program in sight. -/
namespace Go.Proofs.Ytbackpcohkblfaa.SL
open Go Go.RowKit

theorem Fld.of {P : Program} {t f o n : Nat} (h : ((P.underlying t).bind fun d => match d with | .struct fs => (fs[f]?).map fun g => (g.offset, ((P.info? g.type).map (·.size)).getD 0) | _ => none) = some (o, n + 1)) : Fld P t f o := by
  cases hu : P.underlying t with
  | none => rw [hu] at h; cases h
  | some d =>
    rw [hu] at h
    simp only [Option.bind_some] at h
    split at h
    · rename_i fs
      cases hf : fs[f]? with
      | none => rw [hf] at h; cases h
      | some g =>
        rw [hf] at h
        simp only [Option.map_some, Option.some.injEq, Prod.mk.injEq] at h
        refine ⟨fs, g, hu, hf, h.1, n, ?_⟩
        cases hi : P.info? g.type with
        | none => rw [hi] at h; simp at h
        | some i => rw [hi] at h; simpa using h.2
    · cases h
/-- A struct's fields: their places and sizes. -/
class Bld (P : Program) (t : TypeId) (pl : outParam (List (Nat × Nat))) : Prop where
  out : ∃ fs, P.underlying t = some (.struct fs) ∧ ∀ w, (fs.mapM (fun f => do pure (f.offset, ← sizeOf f.type) : Field → Sem (Nat × Nat))).run P w = .ok pl.toArray w
theorem Bld.of {P : Program} {t : TypeId} {pl : List (Nat × Nat)} {fs : Array Field} (h1 : P.underlying t = some (.struct fs)) (h2 : ∀ w, (fs.mapM (fun f => do pure (f.offset, ← sizeOf f.type) : Field → Sem (Nat × Nat))).run P w = .ok pl.toArray w) : Bld P t pl := ⟨fs, h1, h2⟩
def cl (v : Value) : List Value := v.cells.toList
def bl (pl : List (Nat × Nat)) : List Value → List (Nat × Value) → Option (List Value)
  | l, [] => some l
  | l, (i, v) :: r => match pl[i]? with
    | none => none
    | some (o, n) => match Nat.beq (cl v).length n, Nat.ble (o + n) l.length with
      | true, true => bl pl (setL l o (cl v)) r
      | _, _ => none
theorem zip_set : ∀ (vs : List Value) (l : List Value) (o j : Nat), o + j + vs.length ≤ l.length → (vs.zipIdx j).foldl (fun (cs : Array Value) (x : Value × Nat) => cs.setIfInBounds (o + x.2) x.1) l.toArray = (setL l (o + j) vs).toArray
  | [], l, o, j, _ => rfl
  | v :: vs, l, o, j, h => by
    simp only [List.length_cons] at h
    rw [List.zipIdx_cons, List.foldl_cons, setL]
    have := zip_set vs (l.set (o + j) v) o (j + 1) (by rw [List.length_set]; omega)
    simp only [List.setIfInBounds_toArray]
    exact this
theorem bl_fill {pl : List (Nat × Nat)} : ∀ {r : List (Nat × Value)} {l l' : List Value}, bl pl l r = some l' → Instr.fill (fun i => pl.toArray[i]?) l.toArray r = some l'.toArray
  | [], l, l', h => by cases h; rfl
  | (i, v) :: r, l, l', h => by
    unfold bl at h
    split at h
    · cases h
    · rename_i o n hp
      split at h
      · rename_i h1 h2
        have h1' : v.cells.size = n := by have := Nat.eq_of_beq_eq_true h1; simpa [cl] using this
        have h2' := Nat.le_of_ble_eq_true h2
        unfold Instr.fill
        simp only [List.getElem?_toArray, hp, h1', List.size_toArray]
        rw [if_neg (by simp; omega)]
        have hz := zip_set (cl v) l o 0 (by rw [Nat.eq_of_beq_eq_true h1]; omega)
        have e : (v.cells.zipIdx.foldl (fun cs (x : Value × Nat) => cs.setIfInBounds (o + x.2) x.1) l.toArray) = (setL l o (cl v)).toArray := by
          rw [← Array.foldl_toList, Array.toList_zipIdx]; exact hz
        have hb := bl_fill h
        simp only [List.getElem?_toArray] at hb
        exact (congrArg (fun z => Instr.fill (fun i => pl[i]?) z r) e).trans hb
      · cases h
def pvs (E : Env) : List (Nat × Operand) → Option (List (Nat × Value))
  | [] => some []
  | (i, x) :: xs => match ev E x with
    | none => none
    | some v => match pvs E xs with
      | none => none
      | some vs => some ((i, v) :: vs)
section
variable {P : Program} {ops : Array Oper} {Q : Exit → Act → World → Prop} {s : St} {E : Env} {M : Hp} {rest : List Oper} {d t : Nat} {pos : String} {af : Array Edge}
theorem pvs_map {a : Act} {w : World} (hs : Sat s E M a w) : ∀ {xs : List (Nat × Operand)} {vs : List (Nat × Value)}, pvs E xs = some vs → xs.map (fun (i, x) => (i, a.eval x)) = vs
  | [], vs, h => by cases h; rfl
  | (i, x) :: xs, vs, h => by
    unfold pvs at h
    split at h
    · cases h
    · rename_i v hv
      split at h
      · cases h
      · rename_i us hu
        cases h
        rw [List.map_cons, pvs_map hs hu]
        show (i, a.eval x) :: us = _
        rw [hs.ev hv]
theorem L.build {T : Nat} {parts : List (Nat × Operand)} {vs : List (Nat × Value)} {z : Value} {l l' : List Value} {pl : List (Nat × Nat)} [hz : Zer P T z l] [hb : Bld P T pl] (hn : Nat.blt d s.n = true := by exact rfl) (hx : pvs E parts = some vs := by exact rfl) (hl : bl pl l vs = some l' := by simp only [bl, cl, setL, Value.cells, List.getElem?_cons_zero, List.getElem?_cons_succ, List.length_cons, List.length_nil, List.set_cons_zero, List.set_cons_succ]; rfl)
    (c : L P ops Q rest s ((d, .agg l'.toArray) :: E) M) : L P ops Q (⟨some d, .build T parts.toArray, t, pos, af, none⟩ :: rest) s E M :=
  L.calm (S := fun ρ => Instr.build T (parts.toArray.map fun (i, x) => (i, ρ x))) hn (fun _ => rfl) (fun a w hs => by
    show (Instr.build T (parts.toArray.map fun (i, x) => (i, a.eval x))).run P w = _
    rw [List.map_toArray, pvs_map hs hx]
    obtain ⟨fs, h1, h2⟩ := hb.out
    have hu : Und P T (.struct fs) := ⟨h1⟩
    unfold Instr.build
    rw [run_bind_ok (zer_run hz.out), run_bind_ok und_run]
    refine (run_bind_ok (h2 w)).trans ?_
    rw [hz.cells]
    have hb := bl_fill hl
    simp only [hb]; rfl) c
theorem L.lenS {x : Operand} {b : ByteArray} {T : TypeId} [Und P T .string] (hn : Nat.blt d s.n = true := by exact rfl) (hx : ev E x = some (.string b) := by exact rfl)
    (c : L P ops Q rest s ((d, .int .i64 b.size) :: E) M) : L P ops Q (⟨some d, .call { callee := .builtin .len, args := #[x], argTypes := #[T] }, t, pos, af, none⟩ :: rest) s E M :=
  L.val hn (fun a w hs => ⟨w, by
    show Sem.run P (do let d ← resolve a.eval { callee := .builtin .len, args := #[x], argTypes := #[T] } t; invoke d.target d.args) w = _
    unfold resolve
    simp only [List.map_toArray, List.map_cons, List.map_nil, hs.ev hx]
    refine run_value (s := Builtin.len_ #[T] t #[_]) ?_
    unfold Builtin.len_
    show Sem.run P (underlying T >>= _) w = _
    rw [run_bind_ok und_run]; rfl, hs.at_⟩) c
theorem L.lenV {x : Operand} {b : Option Addr} {n m e T : Nat} [Und P T (.slice e)] (hn : Nat.blt d s.n = true := by exact rfl) (hx : ev E x = some (.slice b n m) := by exact rfl)
    (c : L P ops Q rest s ((d, .int .i64 n) :: E) M) : L P ops Q (⟨some d, .call { callee := .builtin .len, args := #[x], argTypes := #[T] }, t, pos, af, none⟩ :: rest) s E M :=
  L.val hn (fun a w hs => ⟨w, by
    show Sem.run P (do let d ← resolve a.eval { callee := .builtin .len, args := #[x], argTypes := #[T] } t; invoke d.target d.args) w = _
    unfold resolve
    simp only [List.map_toArray, List.map_cons, List.map_nil, hs.ev hx]
    refine run_value (s := Builtin.len_ #[T] t #[_]) ?_
    unfold Builtin.len_
    show Sem.run P (underlying T >>= _) w = _
    rw [run_bind_ok und_run]; rfl, hs.at_⟩) c
def sne (a b : ByteArray) : Bool := !(a.toList == b.toList)
def seq (a b : ByteArray) : Bool := a.toList == b.toList
theorem L.strNe {a b : ByteArray} {z : Bool} {T T' : TypeId} {x y : Operand} (hn : Nat.blt d s.n = true := by exact rfl) (hx : ev E x = some (.string a) := by exact rfl) (hy : ev E y = some (.string b) := by exact rfl) (hz : sne a b = z := by first | with_reducible assumption | rfl)
    (c : L P ops Q rest s ((d, .bool z) :: E) M) : L P ops Q (⟨some d, .binOp .neq T x y T', t, pos, af, none⟩ :: rest) s E M :=
  L.val hn (fun e w hs => ⟨w, by refine run_value ?_; rw [hs.ev hx, hs.ev hy, ← hz]; rfl, hs.at_⟩) c
theorem L.strEq {a b : ByteArray} {z : Bool} {T T' : TypeId} {x y : Operand} (hn : Nat.blt d s.n = true := by exact rfl) (hx : ev E x = some (.string a) := by exact rfl) (hy : ev E y = some (.string b) := by exact rfl) (hz : seq a b = z := by first | with_reducible assumption | rfl)
    (c : L P ops Q rest s ((d, .bool z) :: E) M) : L P ops Q (⟨some d, .binOp .eql T x y T', t, pos, af, none⟩ :: rest) s E M :=
  L.val hn (fun e w hs => ⟨w, by refine run_value ?_; rw [hs.ev hx, hs.ev hy, ← hz]; rfl, hs.at_⟩) c
/-- A place in a string. -/
theorem L.indexS {T k : Nat} {x y : Operand} {b : ByteArray} {q : IntKind} {i : Int} {v : UInt8} [Und P T .string] (hn : Nat.blt d s.n = true := by exact rfl) (hx : ev E x = some (.string b) := by exact rfl) (hy : ev E y = some (.int q i) := by exact rfl) (h0 : 0 ≤ i) (hv : b[i.toNat]? = some v := by exact rfl)
    (c : L P ops Q rest s ((d, .int .u8 v.toNat) :: E) M) : L P ops Q (⟨some d, .index T x y, k, pos, af, none⟩ :: rest) s E M :=
  L.calm (S := fun ρ => Instr.index T (ρ x) (ρ y)) hn (fun _ => rfl) (fun a w hs => by
    show (Instr.index T (a.eval x) (a.eval y)).run P w = _
    rw [hs.ev hx, hs.ev hy]
    unfold Instr.index
    show Sem.run P (underlying T >>= _) w = _
    rw [run_bind_ok und_run]
    simp only [if_pos h0, hv]; rfl) c
theorem bound_run {w : World} {n m : Nat} {q : IntKind} {cd : BoundsCode} (h : n ≤ m) : (Instr.sliceBound (.int q (n : Int)) m cd).run P w = .ok n w := by
  unfold Instr.sliceBound
  have e : (asIntOf (.int q (n : Int)) : Sem (IntKind × Int)).run P w = .ok (q, (n : Int)) w := rfl
  rw [run_bind_ok e]
  simp only
  rw [if_pos (by omega)]; rfl
theorem bounds_run {w : World} {sl : Bool} {n cap lo hi : Nat} {y z : Option Value} (hy : (y = none ∧ lo = 0) ∨ ∃ q, y = some (.int q (lo : Int))) (hz : (z = none ∧ hi = n) ∨ ∃ q, z = some (.int q (hi : Int))) (h1 : lo ≤ hi) (h2 : hi ≤ cap) :
    (Instr.sliceBounds sl n cap y z none).run P w = .ok (lo, hi, cap) w := by
  unfold Instr.sliceBounds
  have e0 : ∀ x : Nat, (pure x : Sem Nat).run P w = .ok x w := fun _ => rfl
  rcases hz with ⟨rfl, rfl⟩ | ⟨q, rfl⟩ <;> rcases hy with ⟨rfl, rfl⟩ | ⟨q', rfl⟩ <;> simp only
  · rw [run_bind_ok (e0 _), run_bind_ok (e0 _), run_bind_ok (e0 _)]; rfl
  · rw [run_bind_ok (e0 _), run_bind_ok (e0 _), run_bind_ok (bound_run h1)]; rfl
  · rw [run_bind_ok (e0 _), run_bind_ok (bound_run h2), run_bind_ok (e0 _)]; rfl
  · rw [run_bind_ok (e0 _), run_bind_ok (bound_run h2), run_bind_ok (bound_run h1)]; rfl
theorem opt_ev {a : Act} {w : World} (hs : Sat s E M a w) {y : Option Operand} {n k : Nat} (hy : (y = none ∧ n = k) ∨ ∃ o q, y = some o ∧ ev E o = some (.int q (n : Int))) : (y.map a.eval = none ∧ n = k) ∨ ∃ q, y.map a.eval = some (.int q (n : Int)) := by
  rcases hy with ⟨rfl, h⟩ | ⟨o, q, rfl, h⟩
  · exact .inl ⟨rfl, h⟩
  · exact .inr ⟨q, by rw [Option.map_some, hs.ev h]⟩
/-- A part of a string. -/
theorem L.sliceS {T lo hi : Nat} {x : Operand} {y z : Option Operand} {b : ByteArray} [Und P T .string] (hn : Nat.blt d s.n = true := by exact rfl) (hx : ev E x = some (.string b) := by exact rfl)
    (hy : (y = none ∧ lo = 0) ∨ ∃ o q, y = some o ∧ ev E o = some (.int q (lo : Int))) (hz : (z = none ∧ hi = b.size) ∨ ∃ o q, z = some o ∧ ev E o = some (.int q (hi : Int))) (h1 : lo ≤ hi) (h2 : hi ≤ b.size)
    (c : L P ops Q rest s ((d, .string (b.extract lo hi)) :: E) M) : L P ops Q (⟨some d, .slice T x y z none, t, pos, af, none⟩ :: rest) s E M :=
  L.calm (S := fun ρ => Instr.sliceAt T (ρ x) (y.map ρ) (z.map ρ) none) hn (fun _ => rfl) (fun a w hs => by
    show (Instr.sliceAt T (a.eval x) (y.map a.eval) (z.map a.eval) none).run P w = _
    rw [hs.ev hx]
    unfold Instr.sliceAt
    rw [run_bind_ok und_run]
    simp only
    unfold Instr.slice
    rw [run_bind_ok und_run]
    simp only [Option.isSome_none]
    have hh := bounds_run (P := P) (w := w) (sl := false) (n := b.size) (cap := b.size) (opt_ev hs hy) (opt_ev hs hz) h1 h2
    refine (run_bind_ok hh).trans ?_
    rfl) c
end
end Go.Proofs.Ytbackpcohkblfaa.SL

/- The separation logic's rules for maps with whole numbers as keys, for interface values. No program in sight. -/
namespace Go.Proofs.Ytbackpcohkblfaa.SL
open Go Go.RowKit

/-- What a map of whole numbers has at one. -/
def lookI : List MapEntry → Int → Option Value
  | [], _ => none
  | e :: r, n => match e.key with
    | .int _ m => if n = m then some e.val else lookI r n
    | _ => lookI r n
def intKeys (k : IntKind) : List MapEntry → Bool
  | [] => true
  | e :: r => match e.key with
    | .int q _ => decide (q = k) && intKeys k r
    | _ => false
section
variable {P : Program} {ops : Array Oper} {Q : Exit → Act → World → Prop} {s : St} {E : Env} {M : Hp} {rest : List Oper} {d t : Nat} {pos : String} {af : Array Edge}
theorem findNow_int {k : IntKind} {n : Int} : ∀ (es : List MapEntry) (i : Nat), intKeys k es = true → ∃ r, Instr.findNow (.int k) (.int k n) es i = some r ∧ r.map (·.2) = lookI es n
  | [], i, _ => ⟨none, rfl, rfl⟩
  | ⟨key, val, born⟩ :: es, i, h => by
    unfold intKeys at h
    split at h
    · rename_i q m hk
      simp only [Bool.and_eq_true, decide_eq_true_eq] at h
      obtain ⟨rfl, h⟩ := h
      simp only at hk
      subst hk
      unfold Instr.findNow lookI
      simp only [Instr.sameNow, if_true]
      by_cases e : n = m
      · subst e; exact ⟨some (i, val), by simp, by simp⟩
      · obtain ⟨r, h1, h2⟩ := findNow_int es (i + 1) h
        refine ⟨r, ?_, by rw [if_neg e]; exact h2⟩
        have : (n == m) = false := by simpa using e
        rw [this]; exact h1
    · cases h
theorem checkKey_int {b : Bool} {K : TypeId} {k : IntKind} {n : Int} {w : World} [Und P K (.int k)] : (Instr.checkKey b 10000 K (.int k n)).run P w = .ok () w := by
  rw [show (10000 : Nat) = 9999 + 1 from rfl]
  unfold Instr.checkKey
  rw [run_bind_ok und_run]; rfl
theorem findKey_int {K : TypeId} {k : IntKind} {n : Int} {w : World} {es : List MapEntry} [Und P K (.int k)] (h : intKeys k es = true) : ∃ r, (Instr.findKey K (.int k n) es).run P w = .ok r w ∧ r.map (·.2) = lookI es n := by
  obtain ⟨r, h1, h2⟩ := findNow_int (k := k) (n := n) es 0 h
  refine ⟨r, ?_, h2⟩
  unfold Instr.findKey
  rw [run_bind_ok und_run, h1]; rfl
theorem getObj_map {b c : Nat} {es : Array MapEntry} {w : World} (hb : w.heap[b]? = some (.map es c)) : (getObj b).run P w = .ok (.map es c) w := by
  show Sem.run P (.getObj b .pure) w = _
  rw [Sem.run, hb]; rfl
theorem setObj_map {b c : Nat} {es : Array MapEntry} {o : Obj} {w : World} (hb : w.heap[b]? = some (.map es c)) : (setObj b o).run P w = .ok () { w with heap := w.heap.setIfInBounds b o } := by
  show Sem.run P (.setObj b o (.pure ())) w = _
  rw [Sem.run, hb]; rfl
theorem lookup_int {T K V b c : Nat} {k : IntKind} {n : Int} {es : List MapEntry} {z : Value} {l : List Value} {ok : Bool} {w : World} [Und P T (.map K V)] [Und P K (.int k)] [hz : Zer P V z l] (hb : w.heap[b]? = some (.map es.toArray c)) (h : intKeys k es = true) :
    (Instr.lookup T (.map (some b)) (.int k n) ok).run P w = .ok (if ok then .tuple #[(lookI es n).getD z, .bool (lookI es n).isSome] else (lookI es n).getD z) w := by
  obtain ⟨r, h1, h2⟩ := findKey_int (P := P) (K := K) (w := w) (n := n) h
  unfold Instr.lookup
  rw [run_bind_ok und_run]
  simp only
  refine (run_bind_ok (run_bind_ok (getObj_map hb))).trans ?_
  refine (run_bind_ok (s := pure es.toArray) rfl).trans ?_
  rw [run_bind_ok checkKey_int]
  refine (run_bind_ok h1).trans ?_
  rw [← h2]
  cases r with
  | none =>
    refine (run_bind_ok (zer_run hz.out)).trans ?_
    cases ok <;> rfl
  | some x => cases ok <;> rfl
theorem L.lookupI (i : Nat) {T K V b c : Nat} {k : IntKind} {n : Int} {es : List MapEntry} {z v : Value} {l : List Value} {ok : Bool} {x y : Operand} [Und P T (.map K V)] [Und P K (.int k)] [hz : Zer P V z l] (hn : Nat.blt d s.n = true := by exact rfl) (hx : ev E x = some (.map (some b)) := by exact rfl) (hy : ev E y = some (.int k n) := by exact rfl)
    (hi : hat M i = some (b, .map es.toArray c) := by exact rfl) (h : intKeys k es = true := by exact rfl) (hv : (if ok then .tuple #[(lookI es n).getD z, .bool (lookI es n).isSome] else (lookI es n).getD z) = v := by exact rfl)
    (c : L P ops Q rest s ((d, v) :: E) M) : L P ops Q (⟨some d, .lookup T x y ok, t, pos, af, none⟩ :: rest) s E M :=
  L.calm (S := fun ρ => Instr.lookup T (ρ x) (ρ y) ok) hn (fun _ => rfl) (fun a w hs => by
    show (Instr.lookup T (a.eval x) (a.eval y) ok).run P w = _
    rw [hs.ev hx, hs.ev hy, ← hv]
    exact lookup_int (hs.at_.holds _ (hat_mem hi)) h) c
/-- A look-up of which one knows what it finds. -/
theorem L.lookupR (i : Nat) {T b : Nat} {o : Obj} {u v : Value} {ok : Bool} {x y : Operand} (hn : Nat.blt d s.n = true := by exact rfl) (hx : ev E x = some (.map (some b)) := by exact rfl) (hy : ev E y = some u := by exact rfl) (hi : hat M i = some (b, o) := by exact rfl)
    (h : ∀ w : World, w.heap[b]? = some o → (Instr.lookup T (.map (some b)) u ok).run P w = .ok v w) (c : L P ops Q rest s ((d, v) :: E) M) : L P ops Q (⟨some d, .lookup T x y ok, t, pos, af, none⟩ :: rest) s E M :=
  L.calm (S := fun ρ => Instr.lookup T (ρ x) (ρ y) ok) hn (fun _ => rfl) (fun a w hs => by
    show (Instr.lookup T (a.eval x) (a.eval y) ok).run P w = _
    rw [hs.ev hx, hs.ev hy]
    exact h w (hs.at_.holds _ (hat_mem hi))) c
theorem L.makeMap {T : Nat} (hn : Nat.blt d s.n = true := by exact rfl) (c : ∀ b, L P ops Q rest s ((d, .map (some b)) :: E) ((b, .map #[] 0) :: M)) : L P ops Q (⟨some d, .makeMap T none, t, pos, af, none⟩ :: rest) s E M :=
  L.newB (f := fun b => .map (some b)) hn (fun _ _ _ => run_value (s := Instr.makeMap T none) rfl) c
theorem At.setObj {w0 : World} {A : List Nat} {w : World} {i b : Nat} {o o' : Obj} (h : At w0 A M w) (hi : hat M i = some (b, o)) : At w0 A (hset M i o') { w with heap := w.heap.setIfInBounds b o' } := by
  have hlt : b < w.heap.size := some_lt (h.holds _ (hat_mem hi))
  refine h.turn hi rfl rfl rfl (by simp) ?_ (fun k hk => ?_)
  · show (w.heap.setIfInBounds b o')[b]? = _
    rw [Array.getElem?_setIfInBounds_self_of_lt hlt]
  · show (w.heap.setIfInBounds b o')[k]? = _
    rw [Array.getElem?_setIfInBounds_ne (fun e => hk e.symm)]
/-- A new entry. -/
theorem L.insertI (i : Nat) {T K V b c : Nat} {k : IntKind} {n : Int} {es : List MapEntry} {v : Value} {x y z : Operand} {M' : Hp} [Und P T (.map K V)] [Und P K (.int k)] (hx : ev E x = some (.map (some b)) := by exact rfl) (hy : ev E y = some (.int k n) := by exact rfl) (hz : ev E z = some v := by exact rfl)
    (hi : hat M i = some (b, .map es.toArray c) := by exact rfl) (h : intKeys k es = true := by exact rfl) (hnew : (lookI es n).isNone = true) (hM : hset M i (.map (es ++ [(⟨.int k n, v, c⟩ : MapEntry)]).toArray (c + 1)) = M' := by simp only [hset]; rfl)
    (kk : L P ops Q rest s E M') : L P ops Q (⟨none, .insert T x y z, t, pos, af, none⟩ :: rest) s E M :=
  L.act (fun a w hs => by
    have hb := hs.at_.holds _ (hat_mem hi)
    refine ⟨_, ?_, by rw [← hM]; exact At.setObj hs.at_ hi⟩
    refine run_skip (s := Instr.mapUpdate T (a.eval x) (a.eval y) (a.eval z)) ?_
    rw [hs.ev hx, hs.ev hy, hs.ev hz]
    obtain ⟨r, h1, h2⟩ := findKey_int (P := P) (K := K) (w := w) (n := n) h
    unfold Instr.mapUpdate
    rw [run_bind_ok und_run]
    simp only
    refine (run_bind_ok (getObj_map hb)).trans ?_
    simp only
    rw [run_bind_ok checkKey_int]
    refine (run_bind_ok h1).trans ?_
    rw [← h2] at hnew
    cases r with
    | some x => simp at hnew
    | none =>
      have e := setObj_map (P := P) (o := .map (es ++ [(⟨.int k n, v, c⟩ : MapEntry)]).toArray (c + 1)) hb
      have e2 : es.toArray.push (⟨.int k n, v, c⟩ : MapEntry) = (es ++ [(⟨.int k n, v, c⟩ : MapEntry)]).toArray := by simp
      simp only [e2]
      exact e) kk
/-- An interface value's type is asked. -/
theorem L.assertY {T A : Nat} {x : Operand} {v : Value} {ds : TypeDesc} [hu : Und P A ds] (hn : Nat.blt d s.n = true := by exact rfl) (hx : ev E x = some (.iface A v) := by exact rfl) (hd : (match ds with | .interface _ => false | _ => true) = true := by exact rfl)
    (c : L P ops Q rest s ((d, .tuple #[v, .bool true]) :: E) M) : L P ops Q (⟨some d, .typeAssert x T A true, t, pos, af, none⟩ :: rest) s E M :=
  L.calm (S := fun ρ => Instr.typeAssert (ρ x) T A true) hn (fun _ => rfl) (fun a w hs => by
    show (Instr.typeAssert (a.eval x) T A true).run P w = _
    rw [hs.ev hx]
    unfold Instr.typeAssert
    refine (run_bind_ok und_run).trans ?_
    cases ds <;> first | (cases hd; done) | simp [pure]) c
theorem L.assertN {T A B : Nat} {x : Operand} {v z : Value} {l : List Value} {ds : TypeDesc} [hu : Und P A ds] [hz : Zer P A z l] (hn : Nat.blt d s.n = true := by exact rfl) (hx : ev E x = some (.iface B v) := by exact rfl) (hd : (match ds with | .interface _ => false | _ => true) = true := by exact rfl) (hne : Nat.beq B A = false := by exact rfl)
    (c : L P ops Q rest s ((d, .tuple #[z, .bool false]) :: E) M) : L P ops Q (⟨some d, .typeAssert x T A true, t, pos, af, none⟩ :: rest) s E M :=
  L.calm (S := fun ρ => Instr.typeAssert (ρ x) T A true) hn (fun _ => rfl) (fun a w hs => by
    show (Instr.typeAssert (a.eval x) T A true).run P w = _
    rw [hs.ev hx]
    unfold Instr.typeAssert
    refine (run_bind_ok und_run).trans ?_
    have hne' : ¬ B = A := Nat.ne_of_beq_eq_false hne
    have e : (do pure (Value.tuple #[← zeroValue A, .bool false]) : Sem Value).run P w = .ok (.tuple #[z, .bool false]) w := by
      rw [run_bind_ok (zer_run hz.out)]; rfl
    cases ds <;> first | (cases hd; done) | (simp only [if_neg hne', if_true]; exact e)) c
/-- A method of an interface value. -/
theorem L.meth {f T : Nat} [Fun P f] {x : Operand} {v u : Value} {nm : String} {xs : List Operand} {ts : Array TypeId} {vs : List Value} {A B M' : Hp} {r : Value} {pre : World → Prop} (is' : List Nat) (hm : ∀ w, (method (P.types.size + Made.depth) T v nm).run P w = .ok (f, u) w)
    (spec : Ctr P f (u :: vs) A pre (is r B)) (hn : Nat.blt d s.n = true := by exact rfl) (hx : ev E x = some (.iface T v) := by exact rfl) (hxs : evs E xs = some vs)
    (hp : hpick M is' = some A := by exact rfl) (hi : is'.Nodup := by decide) (hpre : ∀ w, At s.w0 s.A M w → pre w := by exact fun _ _ => trivial) (hM : B ++ hdrop M is' 0 = M' := by simp only [hset]; rfl) (k : L P ops Q rest s ((d, r) :: E) M') :
    L P ops Q (⟨some d, .call { callee := .invoke x nm, args := xs.toArray, argTypes := ts }, t, pos, af, none⟩ :: rest) s E M := by
  refine L.enter is' hn hp hi (fun a w hs => ?_) spec hpre (fun u C hr => by obtain ⟨rfl, rfl⟩ := hr; rw [hM]; exact k)
  show Sem.run P (do let d ← resolve a.eval { callee := .invoke x nm, args := xs.toArray, argTypes := ts } t; invoke d.target d.args) w = _
  unfold resolve
  simp only [List.map_toArray, evs_map hs hxs, hs.ev hx]
  refine (run_bind_ok (s := pure _) rfl).trans ?_
  have e0 : #[Value.iface T v] ++ vs.toArray = (Value.iface T v :: vs).toArray := by simp
  simp only [e0]
  unfold invoke
  simp only [List.getElem?_toArray, List.getElem?_cons_zero]
  have e : (Value.iface T v :: vs).toArray.extract 1 (Value.iface T v :: vs).toArray.size = vs.toArray := by simp
  rw [e]
  unfold callMethod
  refine (run_bind_ok (s := program) rfl).trans ?_
  refine (run_bind_ok (hm w)).trans ?_
  rw [callFunc_enter]; simp
theorem L.meth1 {f T b : Nat} {o o' : Obj} [Fun P f] {x : Operand} {v u : Value} {nm : String} {xs : List Operand} {ts : Array TypeId} {vs : List Value} {M' : Hp} {r : Value} {pre : World → Prop} (i : Nat) (hm : ∀ w, (method (P.types.size + Made.depth) T v nm).run P w = .ok (f, u) w)
    (spec : Ctr P f (u :: vs) [(b, o)] pre (is r [(b, o')])) (hn : Nat.blt d s.n = true := by exact rfl) (hx : ev E x = some (.iface T v) := by exact rfl) (hxs : evs E xs = some vs)
    (hi : hat M i = some (b, o) := by exact rfl) (hpre : ∀ w, At s.w0 s.A M w → pre w := by exact fun _ _ => trivial) (hM : hset M i o' = M' := by simp only [hset]; rfl) (k : L P ops Q rest s ((d, r) :: E) M') :
    L P ops Q (⟨some d, .call { callee := .invoke x nm, args := xs.toArray, argTypes := ts }, t, pos, af, none⟩ :: rest) s E M := by
  intro a w hs
  have hp : hpick M [i] = some [(b, o)] := by unfold hpick hpick; rw [hi]
  have hN : (keys M).Nodup := hs.at_.nodup
  have := L.meth (P := P) (ops := ops) (Q := Q) (s := s) (E := E) (M := M) (rest := rest) (d := d) (t := t) (pos := pos) (af := af) (ts := ts) [i] hm spec hn hx hxs hp (by simp) hpre rfl (fun a w hs' =>
    k a w ⟨by rw [← hM]; exact At.one hN hi hs'.at_, hs'.defers, hs'.size, hs'.env⟩)
  exact this a w hs
end
end Go.Proofs.Ytbackpcohkblfaa.SL

/- The separation logic's rules for regions that draw their order. No program in sight. -/
namespace Go.Proofs.Ytbackpcohkblfaa.SL
open Go Go.RowKit

/-- An operation that reckons alone. -/
def Clm (P : Program) (E : Env) (o : Oper) (v : Value) : Prop := ∀ ρ : Operand → Value, (∀ x u, ev E x = some u → ρ x = u) → ∀ w : World, (execOp ρ o).run P w = .ok (.value v) w
def N (P : Program) (ops : Array Oper) (Q : Exit → Act → World → Prop) (fuel : Nat) (listed : Array Bool) (s : St) (E : Env) (M : Hp) : Prop := ∀ a w, Sat s E M a w → wpAnyIn (fen s.ro) 0 P .any ops Q fuel listed a w
section
variable {P : Program} {ops : Array Oper} {Q : Exit → Act → World → Prop} {s : St} {E : Env} {M : Hp} {rest : List Oper} {d t : Nat} {pos : String} {af : Array Edge} {fuel : Nat} {listed : Array Bool}

theorem Clm.move {x : Operand} {v : Value} (hx : ev E x = some v) : Clm P E ⟨some d, .move x, t, pos, af, none⟩ v := fun ρ hρ w => by
  show (pure (Next.value (ρ x)) : Sem Next).run P w = _; rw [hρ _ _ hx]; rfl
theorem Clm.assign {x : Operand} {v : Value} (hx : ev E x = some v) : Clm P E ⟨some d, .assign x, t, pos, af, none⟩ v := fun ρ hρ w => by
  show (pure (Next.value (ρ x)) : Sem Next).run P w = _; rw [hρ _ _ hx]; rfl
theorem Clm.nilCheck {x : Operand} {a : Addr} (hx : ev E x = some (.pointer (some a))) : Clm P E ⟨some d, .nilCheck x, t, pos, af, none⟩ (.pointer (some a)) := fun ρ hρ w => by
  unfold execOp; simp only [hρ _ _ hx]; rfl
theorem Clm.ar {op : BinOp} {k k' : IntKind} {a b z : Int} {T T' : TypeId} {x y : Operand} (hx : ev E x = some (.int k a)) (hy : ev E y = some (.int k' b)) (ho : arOk op k k' b = true) (hz : ar op k a b = z) : Clm P E ⟨some d, .binOp op T x y T', t, pos, af, none⟩ (.int k z) := fun ρ hρ w => by
  refine run_value ?_
  rw [hρ _ _ hx, hρ _ _ hy, ← hz]
  exact ar_run ho w
theorem Clm.cm {op : BinOp} {k : IntKind} {a b : Int} {z : Bool} {T T' : TypeId} {x y : Operand} (hx : ev E x = some (.int k a)) (hy : ev E y = some (.int k b)) (ho : cmOk op = true) (hz : cm op a b = z) : Clm P E ⟨some d, .binOp op T x y T', t, pos, af, none⟩ (.bool z) := fun ρ hρ w => by
  refine run_value ?_
  rw [hρ _ _ hx, hρ _ _ hy, ← hz]
  exact cm_run ho w
theorem Clm.fieldAddr {x : Operand} {S f b o o' : Nat} [h : Fld P S f o'] (hx : ev E x = some (.pointer (some ⟨b, o, none⟩))) : Clm P E ⟨some d, .fieldAddr S x f, t, pos, af, none⟩ (.pointer (some ⟨b, o + o', none⟩)) := fun ρ hρ w => by
  refine run_value (s := Instr.fieldAt S (ρ x) f) ?_
  rw [hρ _ _ hx]
  obtain ⟨fs, g, h1, h2, h3, n, h4⟩ := h.out
  have hu : Und P S (.struct fs) := ⟨h1⟩
  unfold Instr.fieldAt
  rw [run_bind_ok und_run]
  simp only [h2]
  show Sem.run P (do pure (Value.pointer (some (← fieldPlace ⟨b, o, none⟩ g)))) w = _
  unfold fieldPlace
  rw [run_bind_ok (run_bind_ok (siz_run h4))]
  rw [add_at, h3]; rfl
theorem Clm.extract {x : Operand} {vs : Array Value} {i : Nat} {v : Value} (hx : ev E x = some (.tuple vs)) (hv : vs.toList[i]? = some v) : Clm P E ⟨some d, .extract x i, t, pos, af, none⟩ v := fun ρ hρ w => by
  refine run_value (s := Instr.extract (ρ x) i) ?_
  rw [hρ _ _ hx]
  unfold Instr.extract
  rw [Array.getElem?_toList] at hv
  simp [hv]
theorem pvs_rho {ρ : Operand → Value} (hρ : ∀ x u, ev E x = some u → ρ x = u) : ∀ {xs : List (Nat × Operand)} {vs : List (Nat × Value)}, pvs E xs = some vs → xs.map (fun (i, x) => (i, ρ x)) = vs
  | [], vs, h => by cases h; rfl
  | (i, x) :: xs, vs, h => by
    unfold pvs at h
    split at h
    · cases h
    · rename_i v hv
      split at h
      · cases h
      · rename_i us hu
        cases h
        rw [List.map_cons, pvs_rho hρ hu]
        show (i, ρ x) :: us = _
        rw [hρ _ _ hv]
theorem Clm.build {T : Nat} {parts : List (Nat × Operand)} {vs : List (Nat × Value)} {z : Value} {l l' : List Value} {pl : List (Nat × Nat)} [hz : Zer P T z l] [hb : Bld P T pl] (hx : pvs E parts = some vs) (hl : bl pl l vs = some l') : Clm P E ⟨some d, .build T parts.toArray, t, pos, af, none⟩ (.agg l'.toArray) := fun ρ hρ w => by
  refine run_value (s := Instr.build T (parts.toArray.map fun (i, x) => (i, ρ x))) ?_
  rw [List.map_toArray, pvs_rho hρ hx]
  obtain ⟨fs, h1, h2⟩ := hb.out
  have hu : Und P T (.struct fs) := ⟨h1⟩
  unfold Instr.build
  rw [run_bind_ok (zer_run hz.out), run_bind_ok und_run]
  refine (run_bind_ok (h2 w)).trans ?_
  rw [hz.cells]
  have hb := bl_fill hl
  simp only [hb]; rfl
theorem Clm.lenS {x : Operand} {b : ByteArray} {T : TypeId} [Und P T .string] (hx : ev E x = some (.string b)) : Clm P E ⟨some d, .call { callee := .builtin .len, args := #[x], argTypes := #[T] }, t, pos, af, none⟩ (.int .i64 b.size) := fun ρ hρ w => by
  show Sem.run P (do let d ← resolve ρ { callee := .builtin .len, args := #[x], argTypes := #[T] } t; invoke d.target d.args) w = _
  unfold resolve
  simp only [List.map_toArray, List.map_cons, List.map_nil, hρ _ _ hx]
  refine run_value (s := Builtin.len_ #[T] t #[_]) ?_
  unfold Builtin.len_
  show Sem.run P (underlying T >>= _) w = _
  rw [run_bind_ok und_run]; rfl

theorem C.draw {id : Nat} {l : List Oper} (hm : P.follows .mixedOrders = true) (h : N P l.toArray Q l.length (Array.replicate l.length false) s E M) : C P (.region id l.toArray true) Q s E M := fun a w hs =>
  wpIn_region_any hm (by simpa using h a _ ⟨hs.at_.drew, hs.defers, hs.size, hs.env⟩)
theorem wpOp_of_list {ro : Option Nat} {i : Nat} {o : Oper} {K : Act → World → Prop} {a : Act} {w : World} (ho : ops[i]? = some o) (h : wpListIn (fen ro) 0 P ops (Exit.then K Q) [o] a w) : wpOpIn (fen ro) 0 P ops Q i K a w := by
  unfold wpOpIn
  simp only [ho]
  unfold wpListIn at h
  have e : wpListIn (fen ro) 0 P ops (Exit.then K Q) [] = K := by funext a w; rfl
  rw [e] at h
  split at h
  · rename_i hw
    rw [if_pos hw]
    obtain ⟨h1, h⟩ := h
    refine ⟨h1, ?_⟩
    unfold Oper.uponIn at h ⊢
    split at h <;> exact h
  · rename_i hw
    rw [if_neg hw]; exact h
/-- Whichever may come up comes up. -/
theorem N.any {rs : List Nat} (hr : Region.ready .any ops listed = rs) (hne : rs ≠ []) (h : ∀ i ∈ rs, ∃ o, ops[i]? = some o ∧ L P ops (Exit.then (wpAnyIn (fen s.ro) 0 P .any ops Q fuel (listed.setIfInBounds i true)) Q) [o] s E M) : N P ops Q (fuel + 1) listed s E M := fun a w hs =>
  wpAnyIn_all hr hne (fun i hi => by obtain ⟨o, ho, hL⟩ := h i hi; exact wpOp_of_list ho (hL a w hs))
theorem N.one {i : Nat} {o : Oper} {listed' : Array Bool} (hr : Region.ready .any ops listed = [i] := by decide +kernel) (ho : ops[i]? = some o := by exact rfl) (hl : listed.setIfInBounds i true = listed' := by exact rfl) (h : L P ops (Exit.then (wpAnyIn (fen s.ro) 0 P .any ops Q fuel listed') Q) [o] s E M) : N P ops Q (fuel + 1) listed s E M :=
  N.any hr (by simp) (fun j hj => by obtain rfl : j = i := by simpa using hj
                                     exact ⟨o, ho, by rw [hl]; exact h⟩)
theorem N.two {i j : Nat} {o o' : Oper} {listed' listed'' : Array Bool} (hr : Region.ready .any ops listed = [i, j]) (ho : ops[i]? = some o) (ho' : ops[j]? = some o') (hl : listed.setIfInBounds i true = listed') (hl' : listed.setIfInBounds j true = listed'')
    (h : L P ops (Exit.then (wpAnyIn (fen s.ro) 0 P .any ops Q fuel listed') Q) [o] s E M) (h' : L P ops (Exit.then (wpAnyIn (fen s.ro) 0 P .any ops Q fuel listed'') Q) [o'] s E M) : N P ops Q (fuel + 1) listed s E M :=
  N.any hr (by simp) (fun k hk => by
    have : k = i ∨ k = j := by simpa using hk
    rcases this with rfl | rfl
    · exact ⟨o, ho, by rw [hl]; exact h⟩
    · exact ⟨o', ho', by rw [hl']; exact h'⟩)
theorem D.any (h : N P ops Q fuel listed s E M) : D (Exit.then (wpAnyIn (fen s.ro) 0 P .any ops Q fuel listed) Q) .normal s E M := fun a w hs => h a w hs
theorem N.fin (hr : Region.ready .any ops listed = [] := by decide +kernel) (h : D Q .normal s E M) : N P ops Q fuel listed s E M := fun a w hs => wpAnyIn_done hr (h a w hs) _
/-- An operation that reckons alone may be taken first. -/
theorem N.take (i : Nat) {op : Op} {v : Value} {listed' : Array Bool} (ho : ops[i]? = some ⟨some d, op, t, pos, af, none⟩) (hy : Clm P E ⟨some d, op, t, pos, af, none⟩ v) (hn : Nat.blt d s.n = true) (hs : Region.noSelect ops = true) (hf : Region.free .any ops listed i = true) (hr : (Region.ready .any ops listed).contains i = true)
    (hQ : ∀ c a w, Q (.panic c) (Act.put a (some d) v) w → Q (.panic c) a w) (hl : listed.setIfInBounds i true = listed') (h : N P ops Q fuel listed' s ((d, v) :: E) M) (hro : s.ro = none := by rfl) (ha : ∀ w ρ, Oper.about P w ρ ⟨some d, op, t, pos, af, none⟩ = none := by intro w ρ; rfl) : N P ops Q (fuel + 1) listed s E M := fun a w hsat => by
  subst hl
  exact wpAnyIn_take (v := v) hro ho hs hf hr hQ ⟨.inl ⟨rfl, fun w' => hy a.eval (fun x u hx => hsat.ev hx) w'⟩, fun w => ha w _⟩ (h _ _ (hsat.put hn v hsat.at_))
/-- An operation that reads alone. -/
def Rds (P : Program) (s : St) (E : Env) (M : Hp) (o : Oper) (v : Value) : Prop := ∀ ρ : Operand → Value, (∀ x u, ev E x = some u → ρ x = u) → ∀ w : World, At s.w0 s.A M w → (execOp ρ o).run P w = .ok (.value v) w
theorem Clm.rds {o : Oper} {v : Value} (h : Clm P E o v) : Rds P s E M o v := fun ρ hρ w _ => h ρ hρ w
theorem Clm.pickT {c x y : Operand} {v : Value} (hc : ev E c = some (.bool true)) (hx : ev E x = some v) : Clm P E ⟨some d, .pick c x y, t, pos, af, none⟩ v := fun ρ hρ w => by
  show (do pure (Next.value (if ← asBool (ρ c) then ρ x else ρ y)) : Sem Next).run P w = _
  rw [hρ _ _ hc, hρ _ _ hx]; rfl
theorem Clm.pickF {c x y : Operand} {v : Value} (hc : ev E c = some (.bool false)) (hy : ev E y = some v) : Clm P E ⟨some d, .pick c x y, t, pos, af, none⟩ v := fun ρ hρ w => by
  show (do pure (Next.value (if ← asBool (ρ c) then ρ x else ρ y)) : Sem Next).run P w = _
  rw [hρ _ _ hc, hρ _ _ hy]; rfl
theorem Clm.not {x : Operand} {b : Bool} {T : TypeId} (hx : ev E x = some (.bool b)) : Clm P E ⟨some d, .unOp .not T x, t, pos, af, none⟩ (.bool (!b)) := fun ρ hρ w => by
  refine run_value ?_
  rw [hρ _ _ hx]; rfl
theorem Clm.strNe {a b : ByteArray} {z : Bool} {T T' : TypeId} {x y : Operand} (hx : ev E x = some (.string a)) (hy : ev E y = some (.string b)) (hz : sne a b = z) : Clm P E ⟨some d, .binOp .neq T x y T', t, pos, af, none⟩ (.bool z) := fun ρ hρ w => by
  refine run_value ?_
  rw [hρ _ _ hx, hρ _ _ hy, ← hz]; rfl
theorem opt_rho {ρ : Operand → Value} (hρ : ∀ x u, ev E x = some u → ρ x = u) {y : Option Operand} {n k : Nat} (hy : (y = none ∧ n = k) ∨ ∃ o q, y = some o ∧ ev E o = some (.int q (n : Int))) : (y.map ρ = none ∧ n = k) ∨ ∃ q, y.map ρ = some (.int q (n : Int)) := by
  rcases hy with ⟨rfl, h⟩ | ⟨o, q, rfl, h⟩
  · exact .inl ⟨rfl, h⟩
  · exact .inr ⟨q, by rw [Option.map_some, hρ _ _ h]⟩
theorem Clm.sliceS {T lo hi : Nat} {x : Operand} {y z : Option Operand} {b : ByteArray} [Und P T .string] (hx : ev E x = some (.string b))
    (hy : (y = none ∧ lo = 0) ∨ ∃ o q, y = some o ∧ ev E o = some (.int q (lo : Int))) (hz : (z = none ∧ hi = b.size) ∨ ∃ o q, z = some o ∧ ev E o = some (.int q (hi : Int))) (h1 : lo ≤ hi) (h2 : hi ≤ b.size) : Clm P E ⟨some d, .slice T x y z none, t, pos, af, none⟩ (.string (b.extract lo hi)) := fun ρ hρ w => by
  refine run_value (s := Instr.sliceAt T (ρ x) (y.map ρ) (z.map ρ) none) ?_
  rw [hρ _ _ hx]
  unfold Instr.sliceAt
  rw [run_bind_ok und_run]
  simp only
  unfold Instr.slice
  rw [run_bind_ok und_run]
  simp only [Option.isSome_none]
  have hh := bounds_run (P := P) (w := w) (sl := false) (n := b.size) (cap := b.size) (opt_rho hρ hy) (opt_rho hρ hz) h1 h2
  refine (run_bind_ok hh).trans ?_
  rfl
theorem Rds.load1 (i : Nat) {x : Operand} {T T' b o : Nat} {l : List Value} {v : Value} [hT : Sgl P T] (hx : ev E x = some (.pointer (some ⟨b, o, none⟩))) (hi : hat M i = some (b, ob l T')) (hv : l[o]? = some v) : Rds P s E M ⟨some d, .load T x, t, pos, af, none⟩ v := fun ρ hρ w hw => by
  obtain ⟨ds, hu, hg⟩ := hT.out
  have hu : Und P T ds := ⟨hu⟩
  refine run_value (s := Instr.loadAt T (ρ x)) ?_
  rw [hρ _ _ hx]
  unfold Instr.loadAt Instr.sureAddr loadVar
  show Sem.run P (do if ← isAgg T then pure (.agg (← loadCells ⟨b, o, none⟩ (← sizeOf T))) else load ⟨b, o, none⟩) w = _
  rw [run_bind_ok agg_run, hg]
  exact load_ob (hw.holds _ (hat_mem hi)) hv
theorem Rds.loadA (i : Nat) {x : Operand} {T T' b o n : Nat} {l : List Value} [hT : Agl P T] [hz : Siz P T n] (hx : ev E x = some (.pointer (some ⟨b, o, none⟩))) (hi : hat M i = some (b, ob l T')) (hv : Nat.ble (o + n) l.length = true) {l' : List Value} (hl : (l.drop o).take n = l') : Rds P s E M ⟨some d, .load T x, t, pos, af, none⟩ (.agg l'.toArray) := fun ρ hρ w hw => by
  obtain ⟨ds, hu, hg⟩ := hT.out
  have hu : Und P T ds := ⟨hu⟩
  refine run_value (s := Instr.loadAt T (ρ x)) ?_
  rw [hρ _ _ hx]
  unfold Instr.loadAt Instr.sureAddr loadVar
  show Sem.run P (do if ← isAgg T then pure (.agg (← loadCells ⟨b, o, none⟩ (← sizeOf T))) else load ⟨b, o, none⟩) w = _
  rw [run_bind_ok agg_run, hg]
  show Sem.run P (do pure (Value.agg (← loadCells ⟨b, o, none⟩ (← sizeOf T)))) w = _
  rw [run_bind_ok (siz_run hz.out)]
  show Sem.run P (do pure (Value.agg (← loadCellsFrom ⟨b, o, none⟩ 0 n #[]))) w = _
  rw [run_bind_ok (loadCells_ob (hw.holds (b, ob l T') (hat_mem hi)) n 0 #[] (by simpa using Nat.le_of_ble_eq_true hv))]
  rw [← hl]; simp

/-- A region that reads alone. -/
def H (P : Program) (ops : Array Oper) (Q : Exit → Act → World → Prop) (fuel : Nat) (listed : Array Bool) (s : St) (E : Env) (M : Hp) : Prop := ∀ a w, Sat s E M a w → wpAnyH P .any ops Q (At s.w0 s.A M) fuel listed a w
theorem C.drawH {id : Nat} {l : List Oper} (hm : P.follows .mixedOrders = true) (h : H P l.toArray Q l.length (Array.replicate l.length false) s E M) (hro : s.ro = none := by rfl) : C P (.region id l.toArray true) Q s E M := fun a w hs => by
  rw [hro]
  exact wpIn_wide.2 (wp_region_held hm (by simpa using h a _ ⟨hs.at_.drew, hs.defers, hs.size, hs.env⟩))
theorem H.fin (hr : Region.ready .any ops listed = []) (h : D Q .normal s E M) : H P ops Q fuel listed s E M := fun a w hs => wpAnyH_done hr (h a w hs) _
theorem H.go (i : Nat) {op : Op} {v : Value} {listed' : Array Bool} (ho : ops[i]? = some ⟨some d, op, t, pos, af, none⟩) (hy : Rds P s E M ⟨some d, op, t, pos, af, none⟩ v) (hn : Nat.blt d s.n = true) (hs : Region.noSelect ops = true) (hf : Region.free .any ops listed i = true) (hr : (Region.ready .any ops listed).contains i = true)
    (hQ : ∀ c a w, Q (.panic c) (Act.put a (some d) v) w → Q (.panic c) a w) (hl : listed.setIfInBounds i true = listed') (h : H P ops Q fuel listed' s ((d, v) :: E) M) : H P ops Q (fuel + 1) listed s E M := fun a w hsat => by
  subst hl
  exact wpAnyH_take (v := v) ho hs hf hr hQ (.inl ⟨rfl, fun w' hw' => hy a.eval (fun x u hx => hsat.ev hx) w' hw'⟩) hsat.at_ (h _ _ (hsat.put hn v hsat.at_))
theorem H.want (i : Nat) {op : Op} {v : Value} {j e : Nat} {b : Bool} {listed' : Array Bool} (ho : ops[i]? = some ⟨some d, op, t, pos, af, some (j, b)⟩) (hj : (ops[j]?).bind (·.dst) = some e) (hv : lk E e = some (.bool b)) (hy : Rds P s E M ⟨some d, op, t, pos, af, none⟩ v) (hn : Nat.blt d s.n = true) (hs : Region.noSelect ops = true) (hf : Region.free .any ops listed i = true) (hr : (Region.ready .any ops listed).contains i = true)
    (hQ : ∀ c a w, Q (.panic c) (Act.put a (some d) v) w → Q (.panic c) a w) (hl : listed.setIfInBounds i true = listed') (h : H P ops Q fuel listed' s ((d, v) :: E) M) : H P ops Q (fuel + 1) listed s E M := fun a w hsat => by
  subst hl
  have hw : Region.wanted ⟨some d, op, t, pos, af, some (j, b)⟩ (yielded ops a.tmps) = true := by
    unfold Region.wanted yielded
    simp only [hj, Option.bind_some, hsat.env _ _ hv]; simp
  exact wpAnyH_take (v := v) ho hs hf hr hQ (.inl ⟨hw, fun w' hw' => hy a.eval (fun x u hx => hsat.ev hx) w' hw'⟩) hsat.at_ (h _ _ (hsat.put hn v hsat.at_))
theorem H.pass (i : Nat) {op : Op} {j e : Nat} {b c : Bool} {listed' : Array Bool} (ho : ops[i]? = some ⟨some d, op, t, pos, af, some (j, b)⟩) (hj : (ops[j]?).bind (·.dst) = some e) (hv : lk E e = some (.bool c)) (hne : (c == b) = false) (hn : Nat.blt d s.n = true) (hs : Region.noSelect ops = true) (hf : Region.free .any ops listed i = true) (hr : (Region.ready .any ops listed).contains i = true)
    (hQ : ∀ c a w, Q (.panic c) (Act.put a (some d) undef) w → Q (.panic c) a w) (hl : listed.setIfInBounds i true = listed') (h : H P ops Q fuel listed' s ((d, undef) :: E) M) : H P ops Q (fuel + 1) listed s E M := fun a w hsat => by
  subst hl
  have hw : Region.wanted ⟨some d, op, t, pos, af, some (j, b)⟩ (yielded ops a.tmps) = false := by
    unfold Region.wanted yielded
    simp only [hj, Option.bind_some, hsat.env _ _ hv]
    cases b <;> cases c <;> first | rfl | cases hne
  exact wpAnyH_take (v := undef) ho hs hf hr hQ (.inr ⟨hw, rfl⟩) hsat.at_ (h _ _ (hsat.put hn undef hsat.at_))
/-- The least of two numbers. -/
theorem L.minI {x y : Operand} {k : IntKind} {a b z : Int} {ts : Array TypeId} (hn : Nat.blt d s.n = true := by exact rfl) (hx : ev E x = some (.int k a) := by exact rfl) (hy : ev E y = some (.int k b) := by exact rfl) (hz : (if b < a then b else a) = z := by first | with_reducible assumption | rfl)
    (c : L P ops Q rest s ((d, .int k z) :: E) M) : L P ops Q (⟨some d, .call { callee := .builtin .min, args := #[x, y], argTypes := ts }, t, pos, af, none⟩ :: rest) s E M :=
  L.val hn (fun e w hs => ⟨w, by
    show Sem.run P (do let d ← resolve e.eval { callee := .builtin .min, args := #[x, y], argTypes := ts } t; invoke d.target d.args) w = _
    unfold resolve
    simp only [List.map_toArray, List.map_cons, List.map_nil, hs.ev hx, hs.ev hy]
    rw [← hz]
    refine run_value (s := Builtin.min_ ts t #[_, _]) rfl, hs.at_⟩) c
theorem L.maxI {x y : Operand} {k : IntKind} {a b z : Int} {ts : Array TypeId} (hn : Nat.blt d s.n = true := by exact rfl) (hx : ev E x = some (.int k a) := by exact rfl) (hy : ev E y = some (.int k b) := by exact rfl) (hz : (if b > a then b else a) = z := by first | with_reducible assumption | rfl)
    (c : L P ops Q rest s ((d, .int k z) :: E) M) : L P ops Q (⟨some d, .call { callee := .builtin .max, args := #[x, y], argTypes := ts }, t, pos, af, none⟩ :: rest) s E M :=
  L.val hn (fun e w hs => ⟨w, by
    show Sem.run P (do let d ← resolve e.eval { callee := .builtin .max, args := #[x, y], argTypes := ts } t; invoke d.target d.args) w = _
    unfold resolve
    simp only [List.map_toArray, List.map_cons, List.map_nil, hs.ev hx, hs.ev hy]
    rw [← hz]
    refine run_value (s := Builtin.max_ ts t #[_, _]) rfl, hs.at_⟩) c
end
end Go.Proofs.Ytbackpcohkblfaa.SL

/- The separation logic's rule for a range over a function: the caller's side. No program in sight. -/
namespace Go.Proofs.Ytbackpcohkblfaa.SL
open Go Go.RowKit

def cellsHp (M : Hp) : Bool := M.all fun x => x.2.isCells
/-- What lay ahead of the loop and is not the body's lies as it lay. -/
def Kpr (w : World) (A : List Nat) (W W' : World) : Prop := ∀ k, k < w.heap.size → k ∉ A → W'.heap[k]? = W.heap[k]?
def pe (E : Env) : List Nat → List Value → Env
  | p :: ps, v :: vs => pe ((p, v) :: E) ps vs
  | _, _ => E
section
variable {P : Program} {Q : Exit → Act → World → Prop} {s : St} {E : Env} {M : Hp}

theorem At.trans {w0 w w' : World} {A : List Nat} {M M' : Hp} (h : At w0 A M w) (h' : At w (keys M) M' w') : At w0 A M' w' := by
  have hsub : ∀ b ∈ keys M, b ∈ A ∨ w0.heap.size ≤ b := by
    intro b hb
    obtain ⟨x, hx, rfl⟩ := List.mem_map.1 hb
    exact h.mine x hx
  exact ⟨h.keeps.trans h'.keeps hsub, h'.nodup, fun x hx => (h'.mine x hx).elim (hsub _) (fun h1 => .inr (Nat.le_trans h.keeps.size h1)), h'.holds⟩
/-- A block that is none of one's own is turned. -/
theorem At.other {w0 w w' : World} {A : List Nat} {M : Hp} {r : Option Nat} (h : At w0 A M w) (hg : w.grownBy w' r) (hr : ∀ k, r = some k → w0.heap.size ≤ k ∧ k ∉ keys M) : At w0 A M w' :=
  ⟨⟨hg.os.trans h.keeps.os, hg.tape.trans h.keeps.tape, hg.output.trans h.keeps.output, Nat.le_trans h.keeps.size hg.size, fun k hk hA =>
    (hg.block k (Nat.lt_of_lt_of_le hk h.keeps.size) (fun e => by have := (hr k e.symm).1; omega)).trans (h.keeps.block k hk hA)⟩, h.nodup, h.mine, fun x hx =>
    (hg.block x.1 (h.lt x hx) (fun e => (hr x.1 e.symm).2 (List.mem_map.2 ⟨x, hx, rfl⟩))).trans (h.holds x hx)⟩
theorem not_mem_cells {M : Hp} {w : World} {k : Nat} {o : Obj} (hc : cellsHp M = true) (hm : ∀ x ∈ M, w.heap[x.1]? = some x.2) (hk : w.heap[k]? = some o) (ho : o.isCells = false) : k ∉ keys M := by
  intro hkm
  obtain ⟨x, hx, rfl⟩ := List.mem_map.1 hkm
  have h1 := hm x hx
  rw [hk] at h1; cases h1
  have := List.all_eq_true.1 hc x hx
  rw [ho] at this; cases this
/-- Rows of cells, and maps of K. -/
def plainM (K : List Nat) (M : Hp) : Prop := ∀ x ∈ M, x.2.isCells = true ∨ ((match x.2 with | .map .. => true | _ => false) = true ∧ x.1 ∈ K)
theorem plainM.of {K : List Nat} {M : Hp} (h : cellsHp M = true) : plainM K M := fun x hx => .inl (List.all_eq_true.1 h x hx)
theorem plainM.out {K : List Nat} {M : Hp} {w : World} {k : Nat} {o : Obj} (hc : plainM K M) (hm : ∀ x ∈ M, w.heap[x.1]? = some x.2) (hk : w.heap[k]? = some o) (ho : o.isCells = false) (hK : k ∉ K) : k ∉ keys M := by
  intro hkm
  obtain ⟨x, hx, rfl⟩ := List.mem_map.1 hkm
  have h1 := hm x hx
  rw [hk] at h1; cases h1
  rcases hc x hx with h | ⟨_, h⟩
  · rw [ho] at h; cases h
  · exact hK h
theorem keys_append (M M' : Hp) : keys (M ++ M') = keys M ++ keys M' := by simp [keys]
theorem At.snoc {w0 w : World} {A : List Nat} {M : Hp} {k : Nat} {o : Obj} (h : At w0 A M w) (hk : w.heap[k]? = some o) (hn : k ∉ keys M) (hm : k ∈ A ∨ w0.heap.size ≤ k) : At w0 A (M ++ [(k, o)]) w := by
  refine ⟨h.keeps, ?_, ?_, ?_⟩
  · rw [keys_append, List.nodup_append]
    exact ⟨h.nodup, by simp [keys], fun a ha b hb e => by subst e; simp [keys] at hb; exact hn (hb ▸ ha)⟩
  · intro x hx
    rcases List.mem_append.1 hx with hx | hx
    · exact h.mine x hx
    · obtain rfl : x = (k, o) := by simpa using hx
      exact hm
  · intro x hx
    rcases List.mem_append.1 hx with hx | hx
    · exact h.holds x hx
    · obtain rfl : x = (k, o) := by simpa using hx
      exact hk
theorem At.init {w0 w : World} {A : List Nat} {M : Hp} {y : Nat × Obj} (h : At w0 A (M ++ [y]) w) : At w0 A M w := by
  have hn := h.nodup
  rw [keys_append, List.nodup_append] at hn
  exact ⟨h.keeps, hn.1, fun x hx => h.mine x (List.mem_append_left _ hx), fun x hx => h.holds x (List.mem_append_left _ hx)⟩
/-- What a range over a function calls: yield is called with what may come next, V. -/
def SeqV {α : Type} (P : Program) (g : Nat) (lb : Array Value) (encs : α → Array Value) (Kp : World → World → Prop) (V : List α → α → Prop) (S Sp : List α → Prop) (w : World) : Prop :=
  ∀ (l : Nat) (J Jx : List α → World → Prop) (W : World), Below w.heap.size w W → AbidesFrom W.heap.size J → AbidesFrom W.heap.size Jx →
    (∀ pre x W1, J pre W1 → V pre x → YieldAt Fence.wide 3 P l (encs x) W1 fun e W' =>
      (e = .returned (.bool true) ∧ J (pre ++ [x]) W' ∧ Kp W1 W') ∨ (e = .returned (.bool false) ∧ Jx (pre ++ [x]) W')) →
    J [] W →
    CallsIn Fence.wide 4 P g (#[.func (.yield l) #[] #[]] ++ lb) W fun e W' => (∃ v, e = .returned v) ∧ ((∃ xs, S xs ∧ J xs W') ∨ (∃ pre, Sp pre ∧ Jx pre W'))
/-- How a round's body may be left. -/
def RE {α β : Type} (W : World) (l : Nat) (busy : Obj) (G : List α → β → Prop) (MI : List α → β → Hp) (Gx : Code → List α → β → Prop) (MX : Code → List α → β → Hp) (A : List Nat) (xs : List α) : Exit → Act → World → Prop
  | .normal, _, W' => ∃ y, G xs y ∧ At W A (MI xs y ++ [(l, busy)]) W'
  | .ret, _, W' => ∃ y, Gx .ret xs y ∧ At W A (MX .ret xs y ++ [(l, busy)]) W'
  | .exit i, _, W' => ∃ y, Gx (.exit i) xs y ∧ At W A (MX (.exit i) xs y ++ [(l, busy)]) W'
  | _, _, _ => False
/-- Behind the assignments: the round begins. -/
def RB (P : Program) (l : Nat) (rec : Loop) (body : Code) (R : Exit → Act → World → Prop) (a : Act) (W : World) : Prop :=
  W.heap[l]? = some (.loop rec) ∧ (Code.wpIn (fen (some l)) 0 P body R a (W.putObj l (.loop { rec with state := .busy })))
theorem pe_sat : ∀ (ps : List Nat) (vs : List Value) {E : Env} {tmps : Array Value} {n : Nat}, ps.all (fun p => Nat.blt p n) = true → tmps.size = n → (∀ i v, lk E i = some v → tmps[i]? = some v) →
    ((ps.zip vs).foldl (fun t (x : Nat × Value) => t.setIfInBounds x.1 x.2) tmps).size = n ∧ ∀ i v, lk (pe E ps vs) i = some v → ((ps.zip vs).foldl (fun t (x : Nat × Value) => t.setIfInBounds x.1 x.2) tmps)[i]? = some v
  | [], _, E, tmps, n, _, hs, hE => by simpa [pe] using ⟨hs, hE⟩
  | _ :: _, [], E, tmps, n, _, hs, hE => by simpa [pe] using ⟨hs, hE⟩
  | p :: ps, v :: vs, E, tmps, n, hp, hs, hE => by
    simp only [List.all_cons, Bool.and_eq_true] at hp
    have hlt : p < tmps.size := by rw [hs]; simpa [Nat.blt_eq] using hp.1
    simp only [List.zip_cons_cons, List.foldl_cons, pe]
    refine pe_sat ps vs hp.2 (by simpa using hs) (fun i u hi => ?_)
    rcases lk_put hi with ⟨rfl, rfl⟩ | ⟨hne, hi⟩
    · rw [Array.getElem?_setIfInBounds_self_of_lt hlt]
    · rw [Array.getElem?_setIfInBounds_ne (fun e => hne e.symm)]; exact hE i u hi
set_option maxHeartbeats 1000000 in
/-- A range over a function. The body owns the blocks Bk; what holds between two rounds is told by ghosts. -/
theorem C.rangeM {α β : Type} {g : Operand} {ps : List Nat} {assign body : Code} (hro : s.ro = none) {gf : Nat} [Fun P gf] {lb : List Value} (hg : ev E g = some (.func (.func gf) #[] lb.toArray))
    (encs : α → List Value) {V : List α → α → Prop} {S Sp : List α → Prop} (is : List Nat) {Bk : Hp} (hp : hpick M is = some Bk) (hi : is.Nodup)
    (hseq : ∀ w, At s.w0 s.A M w → SeqV P gf lb.toArray (fun x => (encs x).toArray) (Kpr w (keys Bk)) V S Sp w)
    (hps : ∀ x, (encs x).length = ps.length) (hpn : ps.all (fun p => Nat.blt p s.n) = true)
    (G : List α → β → Prop) (MI : List α → β → Hp) (Gx : Code → List α → β → Prop) (MX : Code → List α → β → Hp)
    (hc : ∀ pre y, plainM (keys Bk) (MI pre y)) (hcx : ∀ c pre y, plainM (keys Bk) (MX c pre y)) (y0 : β) (hG0 : G [] y0) (hM0 : MI [] y0 = Bk)
    (round : ∀ (l : Nat) (w W : World) (rec : Loop) (pre : List α) (x : α) (y : β), At s.w0 s.A M w → At w (keys Bk) (MI pre y) W → G pre y → V pre x → w.heap.size ≤ l →
      C P assign (Exit.then (RB P l rec body (RE W l (.loop { rec with state := .busy }) G MI Gx MX (l :: keys (MI pre y)) (pre ++ [x]))) (fun _ _ _ => False))
        { w0 := W, A := l :: keys (MI pre y), n := s.n, ro := some l } (pe E ps (encs x)) (MI pre y ++ [(l, .loop rec)]))
    (done : ∀ (Db : Nat) (xs : List α) (y : β), S xs → G xs y → D Q .normal { s with dl := { target := .collected Db, args := #[] } :: s.dl } E ((Db, .deferred (some [])) :: (MI xs y ++ hdrop M is 0)))
    (stop : ∀ (Db : Nat) (c : Code) (pre : List α) (y : β), Sp pre → Gx c pre y → C P c Q { s with dl := { target := .collected Db, args := #[] } :: s.dl } E ((Db, .deferred (some [])) :: (MX c pre y ++ hdrop M is 0))) :
    C P (.rangeFunc g ps.toArray assign body) Q s E M := by
  obtain ⟨w0, A, n, ro, dl⟩ := s
  simp only at hro
  subst hro
  intro a w hs
  have hBk := hs.at_.pick hi hp
  have hKb : ∀ k, w.heap.size ≤ k → k ∉ keys Bk := fun k hk hm => by
    obtain ⟨z, hz, rfl⟩ := List.mem_map.1 hm
    have := hBk.lt z hz; omega
  refine wpIn_n (n := 5) ?_
  refine wpIn_rangeFunc ?_
  intro fn _
  obtain ⟨rec, hrec⟩ : ∃ rec : LoopState → Option Code → Loop, rec = fun st pe => { state := st, pending := pe, fn, tmps := a.tmps, params := ps.toArray, assign, body, defers := w.heap.size } := ⟨_, rfl⟩
  obtain ⟨W1, hW1⟩ : ∃ W1, (w.alloc (.deferred (some []))).alloc (.loop (rec .ready none)) = W1 := ⟨_, rfl⟩
  have hL1 : W1.heap[w.heap.size + 1]? = some (.loop (rec .ready none)) := by
    rw [← hW1]; have := World.alloc_heap_new (w.alloc (.deferred (some []))) (.loop (rec .ready none)); rwa [World.size_alloc] at this
  have hK1 : W1.heap[w.heap.size]? = some (.deferred (some [])) := by
    rw [← hW1]; exact (Below.heap_alloc _ _ _ (by simp)).trans (World.alloc_heap_new w _)
  have hA1 : At w (keys Bk) Bk W1 := by rw [← hW1]; exact ((At.own hBk.nodup hBk.holds).junk _).junk _
  have hb1 : Below w.heap.size w W1 := by rw [← hW1]; exact ((Below.refl _ w).alloc (Nat.le_refl _) _).alloc (by simp) _
  have hz1 : W1.heap.size = w.heap.size + 2 := by rw [← hW1]; simp
  refine ⟨w.heap.size + 1, [{ target := .collected w.heap.size, args := #[] }], W1, { target := .fn (.func gf) lb.toArray, args := #[.func (.yield (w.heap.size + 1)) #[] #[]] }, W1, gf,
    #[.func (.yield (w.heap.size + 1)) #[] #[]] ++ lb.toArray, W1, ?_, ?_, ?_, ?_, fun _ => by omega, ?_⟩
  · rw [← hW1, hrec]; exact run_enterLoop_outer _ _ _ _ _
  · simp only [resolve, hs.ev hg]
    simp [go_sem]
  · intro f' _; trivial
  · simp only [invoke]
    exact callFunc_enter _ _
  · have hw := hs.at_
    refine (hseq w hw (w.heap.size + 1)
      (fun pre W => (∃ y, G pre y ∧ At w (keys Bk) (MI pre y) W) ∧ W.heap[w.heap.size + 1]? = some (.loop (rec .ready none)) ∧ W.heap[w.heap.size]? = some (.deferred (some [])))
      (fun pre W => ∃ c, (∃ y, Gx c pre y ∧ At w (keys Bk) (MX c pre y) W) ∧ W.heap[w.heap.size + 1]? = some (.loop (rec .done (some c))) ∧ W.heap[w.heap.size]? = some (.deferred (some [])))
      W1 hb1 ?_ ?_ ?_ ⟨⟨y0, hG0, by rw [hM0]; exact hA1⟩, hL1, hK1⟩).mono ?_
    · rintro pre A B row ⟨⟨y, hy, hA⟩, hl, hk⟩ hg' hr
      refine ⟨⟨y, hy, hA.other hg' (fun k e => ?_)⟩, (grownBy_keeps hg' (fun r e => (hr r e).2) hl rfl).trans hl, (grownBy_keeps hg' (fun r e => (hr r e).2) hk rfl).trans hk⟩
      obtain ⟨h1, o, h2, h3⟩ := hr k e
      exact ⟨by omega, (hc pre y).out hA.holds h2 (Obj.not_cells_of_walk h3) (hKb k (by omega))⟩
    · rintro pre A B row ⟨c, ⟨y, hy, hA⟩, hl, hk⟩ hg' hr
      refine ⟨c, ⟨y, hy, hA.other hg' (fun k e => ?_)⟩, (grownBy_keeps hg' (fun r e => (hr r e).2) hl rfl).trans hl, (grownBy_keeps hg' (fun r e => (hr r e).2) hk rfl).trans hk⟩
      obtain ⟨h1, o, h2, h3⟩ := hr k e
      exact ⟨by omega, (hcx c pre y).out hA.holds h2 (Obj.not_cells_of_walk h3) (hKb k (by omega))⟩
    · rintro pre x W ⟨⟨y, hy, hA⟩, hl, hk⟩ hlen
      have hlt : w.heap.size + 1 < W.heap.size := (Array.getElem?_eq_some_iff.1 hl).1
      have hyl := run_yield (P := P) (args := (encs x).toArray) hl (by rw [hrec]; simpa using hps x)
      have hnl : w.heap.size + 1 ∉ keys (MI pre y) := (hc pre y).out hA.holds hl rfl (hKb _ (by omega))
      have hnk : w.heap.size ∉ keys (MI pre y) := (hc pre y).out hA.holds hk rfl (hKb _ (by omega))
      have hr := round (w.heap.size + 1) w W (rec .ready none) pre x y hw hA hy hlen (by omega)
      have hstart : At W ((w.heap.size + 1) :: keys (MI pre y)) (MI pre y ++ [(w.heap.size + 1, .loop (rec .ready none))]) W := by
        refine At.snoc ⟨Keeps.refl _ _, hA.nodup, fun z hz => .inl (List.mem_cons_of_mem _ (List.mem_map.2 ⟨z, hz, rfl⟩)), hA.holds⟩ hl hnl (.inl List.mem_cons_self)
      have htm := pe_sat ps (encs x) hpn hs.size hs.env
      rw [hrec] at hyl
      refine ⟨fn, _, assign, body, hyl, roundIn_of_wpIn trivial (n := 3) ?_⟩
      have hsat : Sat { w0 := W, A := (w.heap.size + 1) :: keys (MI pre y), n := n, ro := some (w.heap.size + 1) } (pe E ps (encs x)) (MI pre y ++ [(w.heap.size + 1, .loop (rec .ready none))])
          { tmps := (ps.toArray.zip (encs x).toArray).foldl (fun t (p, v) => t.setIfInBounds p v) a.tmps, defers := [] } W := by
        have e : (ps.toArray.zip (encs x).toArray).foldl (fun t (z : Nat × Value) => t.setIfInBounds z.1 z.2) a.tmps = (ps.zip (encs x)).foldl (fun t (z : Nat × Value) => t.setIfInBounds z.1 z.2) a.tmps := by simp
        refine ⟨hstart, rfl, ?_, ?_⟩
        · show ((ps.toArray.zip (encs x).toArray).foldl (fun t (z : Nat × Value) => t.setIfInBounds z.1 z.2) a.tmps).size = _
          rw [e]; exact htm.1
        · show ∀ i v, _ → ((ps.toArray.zip (encs x).toArray).foldl (fun t (z : Nat × Value) => t.setIfInBounds z.1 z.2) a.tmps)[i]? = some v
          rw [e]; exact htm.2
      refine wpIn_mono (wpIn_n (m := 3) (hr _ W hsat)) ?_
      rintro e a1 W2 hq
      cases e with
      | normal =>
        obtain ⟨hl2, hbody⟩ := hq
        refine ⟨_, run_beginRound hl2 (by rw [hrec]), ?_⟩
        refine wpIn_mono (wpIn_n (m := 3) hbody) ?_
        have fin : ∀ (M' : Hp) (jump : Option Code) (W3 : World), plainM (keys Bk) M' → At W ((w.heap.size + 1) :: keys (MI pre y)) (M' ++ [(w.heap.size + 1, .loop { rec .ready none with state := .busy })]) W3 →
            (Instr.endRound (w.heap.size + 1) jump).run P W3 = .ok (.bool jump.isNone) (W3.putObj (w.heap.size + 1) (.loop (rec (if jump.isNone then .ready else .done) jump))) ∧
            At w (keys Bk) M' (W3.putObj (w.heap.size + 1) (.loop (rec (if jump.isNone then .ready else .done) jump))) ∧
            (W3.putObj (w.heap.size + 1) (.loop (rec (if jump.isNone then .ready else .done) jump))).heap[w.heap.size + 1]? = some (.loop (rec (if jump.isNone then .ready else .done) jump)) ∧
            (W3.putObj (w.heap.size + 1) (.loop (rec (if jump.isNone then .ready else .done) jump))).heap[w.heap.size]? = some (.deferred (some [])) ∧
            Kpr w (keys Bk) W (W3.putObj (w.heap.size + 1) (.loop (rec (if jump.isNone then .ready else .done) jump))) := by
          intro M' jump W3 hcM h3
          have hl3 := h3.holds (w.heap.size + 1, _) (List.mem_append_right _ List.mem_cons_self)
          have he := run_endRound (P := P) jump hl3
          have hk3 : W3.heap[w.heap.size]? = some (.deferred (some [])) := by
            rw [h3.keeps.block w.heap.size (by omega) (fun hm => by
              rcases List.mem_cons.1 hm with h | h
              · omega
              · exact hnk h)]
            exact hk
          have hsub : ∀ b ∈ (w.heap.size + 1) :: keys (MI pre y), b ∈ keys Bk ∨ w.heap.size ≤ b := by
            intro b hb
            rcases List.mem_cons.1 hb with h | h
            · exact .inr (by omega)
            · obtain ⟨z, hz, rfl⟩ := List.mem_map.1 h
              exact hA.mine z hz
          have hA3 : At w (keys Bk) M' W3 := by
            have h4 := h3.init
            refine ⟨hA.keeps.trans h4.keeps hsub, h4.nodup, fun z hz => ?_, h4.holds⟩
            rcases h4.mine z hz with h5 | h5
            · exact hsub _ h5
            · exact .inr (by omega)
          have hnl3 : w.heap.size + 1 ∉ keys M' := hcM.out hA3.holds hl3 rfl (hKb _ (by omega))
          have hput : At w (keys Bk) M' (W3.putObj (w.heap.size + 1) (.loop (rec (if jump.isNone then .ready else .done) jump))) :=
            hA3.other (grownBy_putObj' W3 (w.heap.size + 1) _) (fun k e => by cases e; exact ⟨by omega, hnl3⟩)
          refine ⟨?_, hput, World.putObj_heap_same (Array.getElem?_eq_some_iff.1 hl3).1, (World.putObj_heap_other (by omega)).trans hk3, ?_⟩
          · rw [hrec] at he ⊢; exact he
          · intro k hk' hkn
            rw [hput.keeps.block k hk' hkn, hA.keeps.block k hk' hkn]
        rintro e a3 W3 hp3
        cases e with
        | normal =>
          obtain ⟨y', hy', h3⟩ := hp3
          obtain ⟨h4, h5, h6, h7, h8⟩ := fin _ none W3 (hc _ _) h3
          exact ⟨_, _, h4, .inl ⟨rfl, ⟨⟨y', hy', h5⟩, h6, h7⟩, h8⟩⟩
        | ret =>
          obtain ⟨y', hy', h3⟩ := hp3
          obtain ⟨h4, h5, h6, h7, h8⟩ := fin _ (some .ret) W3 (hcx _ _ _) h3
          exact ⟨_, _, h4, .inr ⟨rfl, .ret, ⟨y', hy', h5⟩, h6, h7⟩⟩
        | exit id =>
          obtain ⟨y', hy', h3⟩ := hp3
          obtain ⟨h4, h5, h6, h7, h8⟩ := fin _ (some (.exit id)) W3 (hcx _ _ _) h3
          exact ⟨_, _, h4, .inr ⟨rfl, .exit id, ⟨y', hy', h5⟩, h6, h7⟩⟩
        | goto t => exact hp3.elim
        | panic ch => exact hp3.elim
        | outgrown => exact hp3.elim
      | ret => exact hq.elim
      | exit id => exact hq.elim
      | goto t => exact hq.elim
      | panic ch => exact hq.elim
      | outgrown => exact hq.elim
    · have fin : ∀ (M' : Hp) (W2 : World) (o : Obj), plainM (keys Bk) M' → At w (keys Bk) M' W2 → W2.heap[w.heap.size + 1]? = some o → o.isCells = false → W2.heap[w.heap.size]? = some (.deferred (some [])) → ∀ o' : Obj,
          Sat { w0 := w0, A := A, n := n, ro := none, dl := { target := .collected w.heap.size, args := #[] } :: dl } E ((w.heap.size, .deferred (some [])) :: (M' ++ hdrop M is 0)) { a with defers := [{ target := .collected w.heap.size, args := #[] }] ++ a.defers } (W2.putObj (w.heap.size + 1) o') := by
        intro M' W2 o hcM h2 hl2 ho hk2 o'
        have hnl : w.heap.size + 1 ∉ keys M' := hcM.out h2.holds hl2 ho (hKb _ (by omega))
        have hput : At w (keys Bk) M' (W2.putObj (w.heap.size + 1) o') := h2.other (grownBy_putObj' W2 _ _) (fun k e => by cases e; exact ⟨by omega, hnl⟩)
        have hkp : (W2.putObj (w.heap.size + 1) o').heap[w.heap.size]? = some (.deferred (some [])) := (World.putObj_heap_other (by omega)).trans hk2
        have hall := hw.frame hp hput
        have hnk : w.heap.size ∉ keys (M' ++ hdrop M is 0) := by
          rw [keys_append]
          intro hm
          rcases List.mem_append.1 hm with h | h
          · exact hcM.out hput.holds hkp rfl (hKb _ (by omega)) h
          · obtain ⟨x, hx, e⟩ := List.mem_map.1 h
            obtain ⟨j, hj, _⟩ := hdrop_mem x hx
            have := hw.lt x (hat_mem hj)
            omega
        refine ⟨⟨hall.keeps, ?_, ?_, ?_⟩, ?_, hs.size, hs.env⟩
        · simp only [keys, List.map_cons, List.nodup_cons]; exact ⟨hnk, hall.nodup⟩
        · intro x hx
          rcases List.mem_cons.1 hx with rfl | hx
          · exact .inr hw.keeps.size
          · exact hall.mine x hx
        · intro x hx
          rcases List.mem_cons.1 hx with rfl | hx
          · exact hkp
          · exact hall.holds x hx
        · show _ :: a.defers = _; rw [hs.defers]
      rintro e W2 ⟨⟨v, rfl⟩, (⟨xs, hS, ⟨y, hy, hA⟩, hl, hk⟩ | ⟨pre, hSp, c, ⟨y, hy, hA⟩, hl, hk⟩)⟩
      · have hrun := run_endLoop (P := P) hl (by rw [hrec]; simp)
        rw [hrec] at hrun
        refine ⟨none, _, hrun, ?_⟩
        exact done w.heap.size xs y hS hy _ _ (fin _ W2 _ (hc _ _) hA hl rfl hk _)
      · have hrun := run_endLoop (P := P) hl (by rw [hrec]; simp)
        rw [hrec] at hrun
        refine ⟨some c, _, hrun, ?_⟩
        exact wpIn_n (m := 5) (stop w.heap.size c pre y hSp hy _ _ (fin _ W2 _ (hcx _ _ _) hA hl rfl hk _))
theorem C.rangeO {α β : Type} {g : Operand} {ps : List Nat} {assign body : Code} (hro : s.ro = none) {gf : Nat} [Fun P gf] {lb : List Value} (hg : ev E g = some (.func (.func gf) #[] lb.toArray))
    (encs : α → List Value) {V : List α → α → Prop} {S Sp : List α → Prop} (is : List Nat) {Bk : Hp} (hp : hpick M is = some Bk) (hi : is.Nodup)
    (hseq : ∀ w, At s.w0 s.A M w → SeqV P gf lb.toArray (fun x => (encs x).toArray) (Kpr w (keys Bk)) V S Sp w)
    (hps : ∀ x, (encs x).length = ps.length) (hpn : ps.all (fun p => Nat.blt p s.n) = true)
    (G : List α → β → Prop) (MI : List α → β → Hp) (Gx : Code → List α → β → Prop) (MX : Code → List α → β → Hp)
    (hc : ∀ pre y, cellsHp (MI pre y) = true) (hcx : ∀ c pre y, cellsHp (MX c pre y) = true) (y0 : β) (hG0 : G [] y0) (hM0 : MI [] y0 = Bk)
    (round : ∀ (l : Nat) (w W : World) (rec : Loop) (pre : List α) (x : α) (y : β), At s.w0 s.A M w → At w (keys Bk) (MI pre y) W → G pre y → V pre x → w.heap.size ≤ l →
      C P assign (Exit.then (RB P l rec body (RE W l (.loop { rec with state := .busy }) G MI Gx MX (l :: keys (MI pre y)) (pre ++ [x]))) (fun _ _ _ => False))
        { w0 := W, A := l :: keys (MI pre y), n := s.n, ro := some l } (pe E ps (encs x)) (MI pre y ++ [(l, .loop rec)]))
    (done : ∀ (Db : Nat) (xs : List α) (y : β), S xs → G xs y → D Q .normal { s with dl := { target := .collected Db, args := #[] } :: s.dl } E ((Db, .deferred (some [])) :: (MI xs y ++ hdrop M is 0)))
    (stop : ∀ (Db : Nat) (c : Code) (pre : List α) (y : β), Sp pre → Gx c pre y → C P c Q { s with dl := { target := .collected Db, args := #[] } :: s.dl } E ((Db, .deferred (some [])) :: (MX c pre y ++ hdrop M is 0))) :
    C P (.rangeFunc g ps.toArray assign body) Q s E M :=
  C.rangeM hro hg encs is hp hi hseq hps hpn G MI Gx MX (fun pre y => .of (hc pre y)) (fun c pre y => .of (hcx c pre y)) y0 hG0 hM0 round done stop
theorem C.range {α β : Type} {g : Operand} {ps : List Nat} {assign body : Code} (hro : s.ro = none) {gf : Nat} [Fun P gf] {lb : List Value} (hg : ev E g = some (.func (.func gf) #[] lb.toArray))
    (encs : α → List Value) {V : List α → α → Prop} {S Sp : List α → Prop} (is : List Nat) {Bk : Hp} (hp : hpick M is = some Bk) (hi : is.Nodup)
    (hseq : ∀ w, At s.w0 s.A M w → SeqV P gf lb.toArray (fun x => (encs x).toArray) (Kpr w (keys Bk)) V S Sp w)
    (hps : ∀ x, (encs x).length = ps.length) (hpn : ps.all (fun p => Nat.blt p s.n) = true)
    (G : List α → β → Prop) (MI : List α → β → Hp) (Gx : Code → List α → β → Prop) (MX : Code → List α → β → Hp)
    (hc : ∀ pre y, cellsHp (MI pre y) = true) (hcx : ∀ c pre y, cellsHp (MX c pre y) = true) (y0 : β) (hG0 : G [] y0) (hM0 : MI [] y0 = Bk)
    (round : ∀ (l : Nat) (w W : World) (rec : Loop) (pre : List α) (x : α) (y : β), At s.w0 s.A M w → At w (keys Bk) (MI pre y) W → G pre y → V pre x →
      C P assign (Exit.then (RB P l rec body (RE W l (.loop { rec with state := .busy }) G MI Gx MX (l :: keys (MI pre y)) (pre ++ [x]))) (fun _ _ _ => False))
        { w0 := W, A := l :: keys (MI pre y), n := s.n, ro := some l } (pe E ps (encs x)) (MI pre y ++ [(l, .loop rec)]))
    (done : ∀ (Db : Nat) (xs : List α) (y : β), S xs → G xs y → D Q .normal { s with dl := { target := .collected Db, args := #[] } :: s.dl } E ((Db, .deferred (some [])) :: (MI xs y ++ hdrop M is 0)))
    (stop : ∀ (Db : Nat) (c : Code) (pre : List α) (y : β), Sp pre → Gx c pre y → C P c Q { s with dl := { target := .collected Db, args := #[] } :: s.dl } E ((Db, .deferred (some [])) :: (MX c pre y ++ hdrop M is 0))) :
    C P (.rangeFunc g ps.toArray assign body) Q s E M :=
  C.rangeO hro hg encs is hp hi hseq hps hpn G MI Gx MX hc hcx y0 hG0 hM0 (fun l w W rec pre x y h1 h2 h3 h4 _ => round l w W rec pre x y h1 h2 h3 h4) done stop
end
end Go.Proofs.Ytbackpcohkblfaa.SL

/- The separation logic's rules: own slices that grow; closures; the rounds of a range over a function; functions that hold one; iterators. No program in sight. -/
namespace Go.Proofs.Ytbackpcohkblfaa.SL
open Go Go.RowKit

/-- What append asks of an element's type. -/
class Row (P : Program) (e : TypeId) (n b : outParam Nat) : Prop where
  out : ∃ i z, P.info? e = some i ∧ i.zero = some z ∧ i.size = n ∧ i.bytes = b ∧ z.cells.size = n ∧ 0 < n
theorem Row.of {P : Program} {e n b : Nat} (h : ((P.info? e).bind fun i => i.zero.map fun z => (i.size, i.bytes, z.cells.size)) = some (n + 1, b, n + 1)) : Row P e (n + 1) b := by
  cases hi : P.info? e with
  | none => rw [hi] at h; cases h
  | some i =>
    rw [hi] at h
    simp only [Option.bind_some] at h
    cases hz : i.zero with
    | none => rw [hz] at h; cases h
    | some z =>
      rw [hz] at h
      simp only [Option.map_some, Option.some.injEq, Prod.mk.injEq] at h
      exact ⟨i, z, hi, hz, h.1, h.2.1, h.2.2, by omega⟩
def hrep : Hp → Nat → Nat × Obj → Hp
  | [], _, _ => []
  | _ :: r, 0, y => y :: r
  | x :: r, i + 1, y => x :: hrep r i y
theorem hrep_same : ∀ (M : Hp) (i b : Nat) (o o' : Obj), hat M i = some (b, o) → hrep M i (b, o') = hset M i o'
  | [], _, _, _, _, h => by cases h
  | x :: r, 0, b, o, o', h => by cases h; rfl
  | x :: r, i + 1, b, o, o', h => by simp only [hrep, hset]; rw [hrep_same r i b o o' h]
theorem hrep_mem : ∀ {M : Hp} {i : Nat} {y x : Nat × Obj}, x ∈ hrep M i y → x = y ∨ x ∈ M
  | [], _, _, _, h => by cases h
  | z :: r, 0, y, x, h => by
    rcases List.mem_cons.1 h with rfl | h
    · exact .inl rfl
    · exact .inr (List.mem_cons_of_mem _ h)
  | z :: r, i + 1, y, x, h => by
    rcases List.mem_cons.1 h with rfl | h
    · exact .inr List.mem_cons_self
    · exact (hrep_mem h).imp id (List.mem_cons_of_mem _)
theorem hrep_nodup : ∀ {M : Hp} {i : Nat} {y : Nat × Obj}, (keys M).Nodup → y.1 ∉ keys M → (keys (hrep M i y)).Nodup
  | [], _, _, h, _ => h
  | z :: r, 0, y, h, hy => by
    simp only [keys, List.map_cons, List.nodup_cons, List.mem_cons, not_or] at h hy
    simp only [keys, hrep, List.map_cons, List.nodup_cons]
    exact ⟨hy.2, h.2⟩
  | z :: r, i + 1, y, h, hy => by
    simp only [keys, List.map_cons, List.nodup_cons, List.mem_cons, not_or] at h hy
    simp only [keys, hrep, List.map_cons, List.nodup_cons]
    refine ⟨fun hm => ?_, hrep_nodup h.2 hy.2⟩
    obtain ⟨x, hx, e⟩ := List.mem_map.1 hm
    rcases hrep_mem hx with rfl | hx
    · exact hy.1 e
    · exact h.1 (List.mem_map.2 ⟨x, hx, e⟩)
/-- Nothing old is turned; a new block is owned. -/
theorem At.fresh {w0 w w' : World} {A : List Nat} {M : Hp} {b : Nat} {o : Obj} (h : At w0 A M w) (hg : w.grownBy w' none) (hb : w'.heap[b]? = some o) (hw : w.heap.size ≤ b) : At w0 A ((b, o) :: M) w' := by
  have h1 := h.other hg (fun k e => by cases e)
  refine ⟨h1.keeps, ?_, ?_, ?_⟩
  · simp only [keys, List.map_cons, List.nodup_cons]
    refine ⟨fun hm => ?_, h1.nodup⟩
    obtain ⟨x, hx, e⟩ := List.mem_map.1 hm
    have h2 := h.lt x hx
    have h3 : x.1 = b := e
    omega
  · intro x hx
    rcases List.mem_cons.1 hx with rfl | hx
    · exact .inr (Nat.le_trans h.keeps.size hw)
    · exact h1.mine x hx
  · intro x hx
    rcases List.mem_cons.1 hx with rfl | hx
    · exact hb
    · exact h1.holds x hx
theorem At.rep {w0 w w' : World} {A : List Nat} {M : Hp} {i b b' : Nat} {o o' : Obj} (h : At w0 A M w) (hi : hat M i = some (b, o)) (hg : w.grownBy w' (some b)) (hb : w'.heap[b']? = some o') (hw : b' = b ∨ b' = w.heap.size) : At w0 A (hrep M i (b', o')) w' := by
  have hbm := hat_mem hi
  have hold : ∀ x ∈ M, x.1 ≠ b → w'.heap[x.1]? = some x.2 := fun x hx hne => (hg.block x.1 (h.lt x hx) (fun e => hne (by cases e; rfl))).trans (h.holds x hx)
  have hk : Keeps A w0 w' := h.keeps.trans (B := [b]) ⟨hg.os, hg.tape, hg.output, hg.size, fun k hk hn => hg.block k hk (fun e => by cases e; simp at hn)⟩ (fun c hc => by
    obtain rfl : c = b := by simpa using hc
    exact h.mine _ hbm)
  rcases hw with rfl | rfl
  · rw [hrep_same M i b' o o' hi]
    refine ⟨hk, by rw [hset_keys]; exact h.nodup, ?_, ?_⟩
    · intro x hx
      rcases hset_mem hi x hx with rfl | ⟨hx, _⟩
      · exact h.mine (b', o) hbm
      · exact h.mine x hx
    · intro x hx
      rcases hset_mem hi x hx with rfl | ⟨hx, hne⟩
      · exact hb
      · exact hold x hx (hne h.nodup)
  · have hnew : w.heap.size ∉ keys M := fun hm => by
      obtain ⟨x, hx, e⟩ := List.mem_map.1 hm
      have := h.lt x hx; omega
    have hin : ∀ {M : Hp} {i : Nat} {y : Nat × Obj} {b : Nat} {o : Obj}, (keys M).Nodup → hat M i = some (b, o) → ∀ x ∈ hrep M i y, x = y ∨ (x ∈ M ∧ x.1 ≠ b) := by
      intro M
      induction M with
      | nil => intro i y b o _ h; cases h
      | cons z r ih =>
        intro i y b o hn h x hx
        simp only [keys, List.map_cons, List.nodup_cons] at hn
        cases i with
        | zero =>
          cases h
          rcases List.mem_cons.1 hx with rfl | hx
          · exact .inl rfl
          · exact .inr ⟨List.mem_cons_of_mem _ hx, fun e => hn.1 (List.mem_map.2 ⟨x, hx, e⟩)⟩
        | succ i =>
          rcases List.mem_cons.1 hx with rfl | hx
          · exact .inr ⟨List.mem_cons_self, fun e => hn.1 (List.mem_map.2 ⟨_, hat_mem (M := r) (i := i) h, e.symm⟩)⟩
          · exact (ih hn.2 h x hx).imp id (fun h => ⟨List.mem_cons_of_mem _ h.1, h.2⟩)
    refine ⟨hk, hrep_nodup h.nodup hnew, ?_, ?_⟩
    · intro x hx
      rcases hin h.nodup hi x hx with rfl | ⟨hx, _⟩
      · exact .inr h.keeps.size
      · exact h.mine x hx
    · intro x hx
      rcases hin h.nodup hi x hx with rfl | ⟨hx, hne⟩
      · exact hb
      · exact hold x hx hne
def ones (l : List Value) : Prop := ∀ u ∈ l, u.oneCell' = true
section
variable {P : Program} {ops : Array Oper} {Q : Exit → Act → World → Prop} {s : St} {E : Env} {M : Hp} {rest : List Oper} {d t : Nat} {pos : String} {af : Array Edge}
theorem append_run {T dd : Nat} {x y : Operand} {a : Act} {w w' : World} {v u r : Value} (hs : Sat s E M a w) (hx : ev E x = some v) (hy : ev E y = some u) (h : (Builtin.append_ #[T, T] t #[v, u]).run P w = .ok r w') :
    (execOp a.eval ⟨some dd, .call { callee := .builtin .append, args := #[x, y], argTypes := #[T, T] }, t, pos, af, none⟩).run P w = .ok (.value r) w' := by
  show Sem.run P (do let d ← resolve a.eval { callee := .builtin .append, args := #[x, y], argTypes := #[T, T] } t; invoke d.target d.args) w = _
  unfold resolve
  simp only [List.map_toArray, List.map_cons, List.map_nil, hs.ev hx, hs.ev hy]
  exact run_value (s := Builtin.append_ #[T, T] t #[v, u]) h
theorem cells_of {w : World} {b o : Nat} {l news : List Value} {T : TypeId} (h : w.heap[b]? = some (ob l T)) (hn : ∀ j u, news[j]? = some u → l[o + j]? = some u) : ∀ j u, news[j]? = some u → w.cell? ((⟨b, o, none⟩ : Addr).add j) = some u := by
  intro j u hj
  rw [add_at]
  exact cell_ob h (hn j u hj)
/-- append onto a slice of one's own; what is appended lies in a block of one's own, too. -/
theorem L.append (i j : Nat) {T e n bs b b2 o2 len cap m c T2 : Nat} {l l2 news : List Value} {x y : Operand} [hT : Und P T (.slice e)] [hR : Row P e n bs] (hd : Nat.blt d s.n = true)
    (hx : ev E x = some (.slice (some ⟨b, 0, none⟩) len cap)) (hy : ev E y = some (.slice (some ⟨b2, o2, none⟩) m c))
    (hi : hat M i = some (b, ob l e)) (hj : hat M j = some (b2, ob l2 T2)) (hl : l.length = cap * n) (hc : len ≤ cap) (hm : cap ≤ maxLen)
    (hnl : news.length = m * n) (hn : ∀ k u, news[k]? = some u → l2[o2 + k]? = some u) (h1 : ones news) (h63 : len + m ≤ maxLen) (hb : (len + m) * bs ≤ 140737488355328)
    (k : ∀ b' l' cap', l'.length = cap' * n → len + m ≤ cap' → cap' ≤ maxLen → l'.take ((len + m) * n) = l.take (len * n) ++ news → L P ops Q rest s ((d, .slice (some ⟨b', 0, none⟩) (len + m) cap') :: E) (hrep M i (b', ob l' e))) :
    L P ops Q (⟨some d, .call { callee := .builtin .append, args := #[x, y], argTypes := #[T, T] }, t, pos, af, none⟩ :: rest) s E M := by
  intro a w hs
  obtain ⟨ti, z, r1, r2, r3, r4, r5, r6⟩ := hR.out
  have hh := hs.at_.holds (b, ob l e) (hat_mem hi)
  have hh2 := hs.at_.holds (b2, ob l2 T2) (hat_mem hj)
  have hown : w.ownsRow 0 e n (.slice (some ⟨b, 0, none⟩) len cap) len (l.take (len * n)) :=
    ⟨by rw [List.length_take, hl]; exact Nat.min_eq_left (Nat.mul_le_mul_right _ hc), .inr ⟨b, cap, l.toArray, rfl, Nat.zero_le _, hh, hc, hm, by simpa using hl, rfl⟩⟩
  obtain ⟨v', w', hr, ⟨hl', ho⟩, hg, hnil, hat'⟩ := run_append_own_at (P := P) w 0 T t e ti z n bs hT.out r1 r2 r3 r4 r5 r6 _ len _ hown ⟨b2, o2, none⟩ m c news hnl (cells_of hh2 hn) h1 h63 hb (Nat.zero_le _)
  rcases ho with ⟨rfl, _⟩ | ⟨g, cap', cur, rfl, _, hgc, hle, hmx, hsz, htk⟩
  · exact absurd (hnil.1 rfl).1 (by simp)
  · have hg' : g = b ∨ g = w.heap.size := by simpa [Value.ownBlock] using hat'
    refine wpListIn_plain rfl fun K hK => ⟨fun _ _ => trivial, ?_⟩
    rw [Oper.semAt_eq _ _ _ (by intro c h; cases h), append_run hs hx hy hr]
    exact hK _ _ (k g cur.toList cap' (by simpa using hsz) hle hmx htk _ _ (hs.put hd _ (hs.at_.rep hi hg (o' := ob cur.toList e) (by simpa using hgc) hg')))
theorem L.appendNil (j : Nat) {T e n bs b2 o2 m c T2 : Nat} {l2 news : List Value} {x y : Operand} [hT : Und P T (.slice e)] [hR : Row P e n bs] (hd : Nat.blt d s.n = true)
    (hx : ev E x = some (.slice none 0 0)) (hy : ev E y = some (.slice (some ⟨b2, o2, none⟩) (m + 1) c))
    (hj : hat M j = some (b2, ob l2 T2)) 
    (hnl : news.length = (m + 1) * n) (hn : ∀ k u, news[k]? = some u → l2[o2 + k]? = some u) (h1 : ones news) (h63 : m + 1 ≤ maxLen) (hb : (m + 1) * bs ≤ 140737488355328)
    (k : ∀ b' l' cap', l'.length = cap' * n → m + 1 ≤ cap' → cap' ≤ maxLen → l'.take ((m + 1) * n) = news → L P ops Q rest s ((d, .slice (some ⟨b', 0, none⟩) (m + 1) cap') :: E) ((b', ob l' e) :: M)) :
    L P ops Q (⟨some d, .call { callee := .builtin .append, args := #[x, y], argTypes := #[T, T] }, t, pos, af, none⟩ :: rest) s E M := by
  intro a w hs
  obtain ⟨ti, z, r1, r2, r3, r4, r5, r6⟩ := hR.out
  have hh2 := hs.at_.holds (b2, ob l2 T2) (hat_mem hj)
  obtain ⟨v', w', hr, ⟨hl', ho⟩, hg, hnil, hat'⟩ := run_append_own_at (P := P) w 0 T t e ti z n bs hT.out r1 r2 r3 r4 r5 r6 _ 0 _ (World.ownsRow_nil w 0 e n) ⟨b2, o2, none⟩ (m + 1) c news hnl (cells_of hh2 hn) h1 (by omega) (by simpa using hb) (Nat.zero_le _)
  simp only [Nat.zero_add, List.nil_append] at hl' ho hnil hr
  rcases ho with ⟨rfl, _⟩ | ⟨g, cap', cur, rfl, _, hgc, hle, hmx, hsz, htk⟩
  · exact absurd (hnil.1 rfl).2 (by simp)
  · have hg' : g = w.heap.size := by simpa [Value.ownBlock] using hat'
    refine wpListIn_plain rfl fun K hK => ⟨fun _ _ => trivial, ?_⟩
    rw [Oper.semAt_eq _ _ _ (by intro c h; cases h), append_run hs hx hy hr]
    exact hK _ _ (k g cur.toList cap' (by simpa using hsz) hle hmx htk _ _ (hs.put hd _ (hs.at_.fresh hg (o := ob cur.toList e) (by simpa using hgc) (by omega))))
theorem all_ones {l : List Value} (h : l.all (fun v => v.oneCell') = true) : ones l := fun u hu => List.all_eq_true.1 h u hu
/-- One element is appended; it lies in a block of its own. -/
theorem L.append1N (j : Nat) {T e n bs b2 c T2 : Nat} {news : List Value} {x y : Operand} [hT : Und P T (.slice e)] [hR : Row P e n bs] (hd : Nat.blt d s.n = true := by exact rfl)
    (hx : ev E x = some (.slice none 0 0) := by exact rfl) (hy : ev E y = some (.slice (some ⟨b2, 0, none⟩) 1 c) := by exact rfl)
    (hj : hat M j = some (b2, ob news T2) := by exact rfl) (hnl : Nat.beq news.length n = true := by exact rfl) (h1 : news.all (fun v => v.oneCell') = true := by exact rfl) (hb : Nat.ble bs 140737488355328 = true := by exact rfl)
    (k : ∀ b' l' cap', l'.length = cap' * n → 1 ≤ cap' → cap' ≤ maxLen → l'.take (1 * n) = news → L P ops Q rest s ((d, .slice (some ⟨b', 0, none⟩) 1 cap') :: E) ((b', ob l' e) :: M)) :
    L P ops Q (⟨some d, .call { callee := .builtin .append, args := #[x, y], argTypes := #[T, T] }, t, pos, af, none⟩ :: rest) s E M :=
  L.appendNil (m := 0) j hd hx hy hj (by rw [Nat.eq_of_beq_eq_true hnl]; omega) (fun k u h => by simpa using h) (all_ones h1) (by unfold maxLen; omega) (by have := Nat.le_of_ble_eq_true hb; omega) k
theorem L.append1 (i j : Nat) {T e n bs b b2 len cap c T2 : Nat} {l news : List Value} {x y : Operand} [hT : Und P T (.slice e)] [hR : Row P e n bs] (hd : Nat.blt d s.n = true := by exact rfl)
    (hx : ev E x = some (.slice (some ⟨b, 0, none⟩) len cap) := by exact rfl) (hy : ev E y = some (.slice (some ⟨b2, 0, none⟩) 1 c) := by exact rfl)
    (hi : hat M i = some (b, ob l e) := by exact rfl) (hj : hat M j = some (b2, ob news T2) := by exact rfl) (hl : l.length = cap * n := by exact rfl) (hc : len ≤ cap) (hm : cap ≤ maxLen)
    (hnl : Nat.beq news.length n = true := by exact rfl) (h1 : news.all (fun v => v.oneCell') = true := by exact rfl) (h63 : len + 1 ≤ maxLen) (hb : (len + 1) * bs ≤ 140737488355328)
    (k : ∀ b' l' cap', l'.length = cap' * n → len + 1 ≤ cap' → cap' ≤ maxLen → l'.take ((len + 1) * n) = l.take (len * n) ++ news → L P ops Q rest s ((d, .slice (some ⟨b', 0, none⟩) (len + 1) cap') :: E) (hrep M i (b', ob l' e))) :
    L P ops Q (⟨some d, .call { callee := .builtin .append, args := #[x, y], argTypes := #[T, T] }, t, pos, af, none⟩ :: rest) s E M :=
  L.append i j hd hx hy hi hj hl hc hm (by rw [Nat.eq_of_beq_eq_true hnl]; omega) (fun k u h => by simpa using h) (all_ones h1) h63 hb k
theorem setL_all : ∀ (vs pre post l : List Value), l.length = vs.length → setL (pre ++ l ++ post) pre.length vs = pre ++ vs ++ post
  | [], pre, post, l, h => by
    obtain rfl : l = [] := List.eq_nil_of_length_eq_zero (by simpa using h)
    rfl
  | v :: vs, pre, post, [], h => by cases h
  | v :: vs, pre, post, x :: l, h => by
    rw [setL]
    have e : (pre ++ x :: l ++ post).set pre.length v = (pre ++ [v]) ++ l ++ post := by simp
    rw [e]
    have := setL_all vs (pre ++ [v]) post l (by simpa using h)
    simp only [List.length_append, List.length_cons, List.length_nil] at this
    rw [show pre.length + (0 + 1) = pre.length + 1 by omega] at this
    rw [this]; simp
def number : Nat → List Value → List (Nat × Value)
  | _, [] => []
  | k, v :: vs => (k, v) :: number (k + 1) vs
theorem fill_row {n : Nat} : ∀ (vs : List Value) (k : Nat) (pre post : List Value), pre.length = k * n → post.length = vs.length * n → (∀ v ∈ vs, (cl v).length = n) →
    Instr.fill (fun i => some (i * n, n)) (pre ++ post).toArray (number k vs) = some (pre ++ vs.flatMap cl).toArray
  | [], k, pre, post, _, h, _ => by
    obtain rfl : post = [] := List.eq_nil_of_length_eq_zero (by simpa using h)
    simp [number, Instr.fill]
  | v :: vs, k, pre, post, h1, h2, h3 => by
    have hv : (cl v).length = n := h3 v List.mem_cons_self
    have hv' : v.cells.size = n := by simpa [cl] using hv
    simp only [List.length_cons, Nat.add_mul, Nat.one_mul] at h2
    unfold number Instr.fill
    simp only [hv']
    rw [if_neg (by simp; omega)]
    have e : (v.cells.zipIdx.foldl (fun cs (x : Value × Nat) => cs.setIfInBounds (k * n + x.2) x.1) (pre ++ post).toArray) = (pre ++ cl v ++ post.drop n).toArray := by
      have hz := zip_set (cl v) (pre ++ post) (k * n) 0 (by rw [hv]; simp; omega)
      rw [← Array.foldl_toList, Array.toList_zipIdx]
      refine hz.trans ?_
      have h4 := setL_all (cl v) pre (post.drop n) (post.take n) (by rw [hv, List.length_take]; omega)
      rw [List.append_assoc, List.take_append_drop] at h4
      rw [Nat.add_zero, ← h1, h4]
    have hr := fill_row vs (k + 1) (pre ++ cl v) (post.drop n) (by rw [List.length_append, hv, h1, Nat.add_mul, Nat.one_mul]) (by rw [List.length_drop]; omega) (fun u hu => h3 u (List.mem_cons_of_mem _ hu))
    refine (congrArg (fun z => Instr.fill (fun i => some (i * n, n)) z (number (k + 1) vs)) e).trans (hr.trans ?_)
    simp [List.flatMap_cons]
theorem number_pvs : ∀ {xs : List (Nat × Operand)} {vs : List Value} {k : Nat}, xs.map (·.1) = List.range' k xs.length → evs E (xs.map (·.2)) = some vs → pvs E xs = some (number k vs)
  | [], vs, k, _, h => by cases h; rfl
  | (i, x) :: xs, vs, k, hk, h => by
    simp only [List.map_cons, List.length_cons, List.range'_succ, List.cons.injEq] at hk
    obtain ⟨rfl, hk⟩ := hk
    unfold evs at h
    simp only [List.map_cons] at h
    split at h
    · cases h
    · rename_i v hv
      split at h
      · cases h
      · rename_i us hu
        cases h
        unfold pvs
        rw [hv, number_pvs hk hu]; rfl
theorem evs_length : ∀ {xs : List Operand} {vs : List Value}, evs E xs = some vs → vs.length = xs.length
  | [], vs, h => by cases h; rfl
  | x :: xs, vs, h => by
    unfold evs at h
    split at h
    · cases h
    · split at h
      · cases h
      · rename_i us hu
        cases h
        simp [evs_length hu]
/-- A slice that is written out. -/
theorem L.buildS {T e n len : Nat} {parts : List (Nat × Operand)} {vs : List Value} {z : Value} {l l' : List Value} [hT : Und P T (.slice e)] [hS : Siz P e n] [hz : Zer P e z l] (hd : Nat.blt d s.n = true := by exact rfl)
    (hp : parts.map (·.1) = List.range' 0 parts.length := by exact rfl) (hlen : parts.length = len := by exact rfl) (hx : evs E (parts.map (·.2)) = some vs := by exact rfl) (hv : vs.all (fun v => Nat.beq (cl v).length n) = true := by exact rfl) (hsm : Nat.ble (len * n) 16777216 = true := by exact rfl) (hpos : Nat.blt 0 (len * n) = true := by exact rfl) (hl : vs.flatMap cl = l' := by simp only [List.flatMap_cons, List.flatMap_nil, cl, Value.cells, List.append_nil]; rfl)
    (c : ∀ b, L P ops Q rest s ((d, .slice (some ⟨b, 0, none⟩) len len) :: E) ((b, ob l' e) :: M)) : L P ops Q (⟨some d, .buildSlice T len parts.toArray, t, pos, af, none⟩ :: rest) s E M := by
  refine L.newB (f := fun b => .slice (some ⟨b, 0, none⟩) len len) hd ?_ c
  intro a w hs
  show Sem.run P (do pure (Next.value (← Instr.buildSlice T len (parts.toArray.map fun (i, x) => (i, a.eval x))))) w = _
  refine run_value ?_
  rw [List.map_toArray, pvs_map hs (number_pvs hp hx)]
  unfold Instr.buildSlice
  rw [run_bind_ok und_run]
  show Sem.run P (sizeOf e >>= _) w = _
  rw [run_bind_ok (siz_run hS.out)]
  have h1 : len * n ≤ 2 ^ 24 := Nat.le_of_ble_eq_true hsm
  have h2 : 0 < len * n := by simpa [Nat.blt_eq] using hpos
  rw [if_neg (by omega)]
  rw [if_neg (by omega)]
  have hlv : vs.length = len := by rw [evs_length hx, List.length_map, hlen]
  have hf := fun (post : List Value) (hpl : post.length = len * n) => fill_row (n := n) vs 0 [] post (by simp) (by rw [hlv]; exact hpl) (fun v hv' => Nat.eq_of_beq_eq_true (List.all_eq_true.1 hv v hv'))
  have h3 := hf ((Array.range (len * n)).map (z.cells[· % z.cells.size]!)).toList (by simp)
  simp only [List.nil_append, Array.toArray_toList] at h3
  have hz' := zer_run (w := w) hz.out
  simp only [Sem.run_bind, hz', Result.andThen, Sem.run_pure, h3, hl]
  rfl
theorem L.makeFunc {f : Fn} {xs ys : List Operand} {vs us : List Value} (hn : Nat.blt d s.n = true := by exact rfl) (hx : evs E xs = some vs := by exact rfl) (hy : evs E ys = some us := by exact rfl)
    (k : L P ops Q rest s ((d, .func f vs.toArray us.toArray) :: E) M) : L P ops Q (⟨some d, .makeFunc f xs.toArray ys.toArray, t, pos, af, none⟩ :: rest) s E M :=
  L.val hn (fun a w hs => ⟨w, by
    show Sem.run P (do pure (Next.value (← Instr.makeFunc f (xs.toArray.map a.eval) (ys.toArray.map a.eval)))) w = _
    rw [List.map_toArray, List.map_toArray, evs_map hs hx, evs_map hs hy]; rfl, hs.at_⟩) k
end

/-! ### The rounds of a range over a function -/
section
variable {P : Program} {Q : Exit → Act → World → Prop} {s : St} {E : Env} {M : Hp}
theorem D.seqR {ro : Option Nat} {y : Code} (hro : s.ro = ro := by exact rfl) (h : C P y Q s E M) : D (Exit.then (y.wpIn (fen ro) 0 P Q) Q) .normal s E M := by subst hro; exact D.seq h
theorem D.begin {l : Nat} {rec : Loop} {body : Code} {R X : Exit → Act → World → Prop} {M' : Hp} (j : Nat) (hj : hat M j = some (l, .loop rec) := by exact rfl) (hM : hset M j (.loop { rec with state := .busy }) = M') (hro : s.ro = some l := by exact rfl) (k : C P body R s E M') :
    D (Exit.then (RB P l rec body R) X) .normal s E M := by
  intro a w hs
  have hh := hs.at_.holds (l, .loop rec) (hat_mem hj)
  refine ⟨hh, ?_⟩
  rw [← hro]
  refine k a _ ⟨?_, hs.defers, hs.size, hs.env⟩
  rw [← hM]
  exact hs.at_.turn hj rfl rfl rfl (by simp [World.putObj]) (World.putObj_heap_same (some_lt hh)) (fun k hk => World.putObj_heap_other hk)
variable {α β : Type} {l : Nat} {busy : Obj} {G : List α → β → Prop} {MI : List α → β → Hp} {Gx : Code → List α → β → Prop} {MX : Code → List α → β → Hp} {xs : List α}
theorem D.next {W : World} {A : List Nat} {n : Nat} {ro : Option Nat} {dl : List Deferred} (y : β) (is : List Nat) (hG : G xs y) (hi : is.Nodup) (hp : hpick M is = some (MI xs y ++ [(l, busy)])) : D (RE W l busy G MI Gx MX A xs) .normal { w0 := W, A := A, n := n, ro := ro, dl := dl } E M :=
  fun _ _ hs => ⟨y, hG, hs.at_.pick hi hp⟩
theorem D.nextRet {W : World} {A : List Nat} {n : Nat} {ro : Option Nat} {dl : List Deferred} (y : β) (is : List Nat) (hG : Gx .ret xs y) (hi : is.Nodup) (hp : hpick M is = some (MX .ret xs y ++ [(l, busy)])) : D (RE W l busy G MI Gx MX A xs) .ret { w0 := W, A := A, n := n, ro := ro, dl := dl } E M :=
  fun _ _ hs => ⟨y, hG, hs.at_.pick hi hp⟩
theorem D.nextExit {W : World} {A : List Nat} {n i : Nat} {ro : Option Nat} {dl : List Deferred} (y : β) (is : List Nat) (hG : Gx (.exit i) xs y) (hi : is.Nodup) (hp : hpick M is = some (MX (.exit i) xs y ++ [(l, busy)])) : D (RE W l busy G MI Gx MX A xs) (.exit i) { w0 := W, A := A, n := n, ro := ro, dl := dl } E M :=
  fun _ _ hs => ⟨y, hG, hs.at_.pick hi hp⟩

/-! ### Functions that hold a range over a function -/
def mks (Ds : List Nat) : List Deferred := Ds.map fun D => { target := .collected D, args := #[] }
def mkd (Ds : List Nat) : Hp := Ds.map fun D => (D, .deferred (some []))
/-- How the body of a function that holds a range over a function is left. -/
def bodyM (P : Program) (fn : Func) (R : Ending → World → Prop) : Exit → Act → World → Prop
  | .normal, a, w => LeavesInM Fence.wide 4 P fn a.tmps R a.defers .returning w
  | .ret, a, w => LeavesInM Fence.wide 4 P fn a.tmps R a.defers .returning w
  | _, _, _ => False
theorem leaves_marks {w0 : World} {A : List Nat} {fn : Func} {tmps : Array Value} {R : Ending → World → Prop} {M : Hp} : ∀ (Ds : List Nat) (w : World), At w0 A (mkd Ds ++ M) w →
    (∀ w, At w0 A M w → LeavesIn Fence.wide 4 P fn tmps R [] .returning w) → LeavesInM Fence.wide 4 P fn tmps R (mks Ds) .returning w
  | [], w, h, k => k w h
  | D :: Ds, w, h, k => by
    have hD : w.heap[D]? = some (.deferred (some [])) := h.holds (D, .deferred (some [])) List.mem_cons_self
    refine ⟨by simp, .inl ⟨D, _, rfl, run_takeDeferred hD, leaves_marks Ds _ ?_ k⟩⟩
    have h1 : At w0 A (hset (mkd (D :: Ds) ++ M) 0 (.deferred none)) (w.putObj D (.deferred none)) :=
      h.turn (i := 0) rfl rfl rfl rfl (by simp [World.putObj]) (World.putObj_heap_same (some_lt hD)) (fun k hk => World.putObj_heap_other hk)
    have h2 : hset (mkd (D :: Ds) ++ M) 0 (.deferred none) = (D, .deferred none) :: (mkd Ds ++ M) := rfl
    rw [h2] at h1
    refine ⟨h1.keeps, ?_, fun x hx => h1.mine x (List.mem_cons_of_mem _ hx), fun x hx => h1.holds x (List.mem_cons_of_mem _ hx)⟩
    have := h1.nodup
    simp only [keys, List.map_cons, List.nodup_cons] at this
    exact this.2
theorem At.split {w0 w : World} {A : List Nat} {is : List Nat} {B : Hp} (h : At w0 A M w) (hi : is.Nodup) (hp : hpick M is = some B) : At w0 A (B ++ hdrop M is 0) w :=
  h.frame hp (At.own (hpick_nodup h.nodup hi hp) (fun x hx => h.holds x (hpick_mem hp x hx)))
theorem D.retM_aux {e : Exit} (he : e = .ret ∨ e = .normal) {fn : Func} {R : Ending → World → Prop} {vs : List Value} (Ds js : List Nat) (hdl : s.dl = mks Ds) (hi : js.Nodup) (hp : hpick M js = some (mkd Ds)) (h : RV P E (hdrop M js 0) fn.results.toList vs)
    (hR : ∀ w, At s.w0 s.A (hdrop M js 0) w → R (.returned (shut vs)) w) : D (bodyM P fn R) e s E M := by
  intro a w hs
  have : LeavesInM Fence.wide 4 P fn a.tmps R a.defers .returning w := by
    rw [hs.defers, hdl]
    refine leaves_marks Ds w (hs.at_.split hi hp) (fun w' hw' => ?_)
    refine ⟨shut vs, results_run (rs := fn.results.toList) (by simp) (s := { s with dl := a.defers }) (a := a) ⟨hw', rfl, hs.size, hs.env⟩ h, hR w' hw'⟩
  rcases he with rfl | rfl <;> exact this
theorem D.retM {fn : Func} {R : Ending → World → Prop} {vs : List Value} (Ds js : List Nat) (hdl : s.dl = mks Ds) (hi : js.Nodup) (hp : hpick M js = some (mkd Ds)) (h : RV P E (hdrop M js 0) fn.results.toList vs)
    (hR : ∀ w, At s.w0 s.A (hdrop M js 0) w → R (.returned (shut vs)) w) : D (bodyM P fn R) .ret s E M := D.retM_aux (.inl rfl) Ds js hdl hi hp h hR
theorem D.finM {fn : Func} {R : Ending → World → Prop} {vs : List Value} (Ds js : List Nat) (hdl : s.dl = mks Ds) (hi : js.Nodup) (hp : hpick M js = some (mkd Ds)) (h : RV P E (hdrop M js 0) fn.results.toList vs)
    (hR : ∀ w, At s.w0 s.A (hdrop M js 0) w → R (.returned (shut vs)) w) : D (bodyM P fn R) .normal s E M := D.retM_aux (.inr rfl) Ds js hdl hi hp h hR
theorem start_sat {args : List Value} {n : Nat} {w : World} {A : Hp} (h1 : (keys A).Nodup) (h2 : ∀ x ∈ A, w.heap[x.1]? = some x.2) (hl : args.length ≤ n) :
    Sat { w0 := w, A := keys A, n := n } (env0 args 0) A { tmps := args.toArray ++ Array.replicate (n - args.toArray.size) undef, defers := [] } w := by
  refine ⟨At.own h1 h2, rfl, by simp; omega, fun i v hi => ?_⟩
  obtain ⟨_, h4⟩ := env0_get hi
  rw [Nat.sub_zero] at h4
  have hlt : i < args.length := by
    rcases Nat.lt_or_ge i args.length with h | h
    · exact h
    · rw [List.getElem?_eq_none h] at h4; cases h4
  simp only [List.size_toArray]
  rw [Array.getElem?_append_left (by simpa using hlt)]
  simpa using h4
theorem Ctr.enterM {f n : Nat} {fn : Func} {c : Code} {args : List Value} {A : Hp} {pre : World → Prop} {R : Value → Hp → Prop} (hf : P.funcs[f]? = some fn) (hnt : fn.ntmps = n) (hb : fn.body = some c) (hlen : Nat.ble args.length n = true)
    (h : ∀ w, pre w → C P c (bodyM P fn (Post w (keys A) R)) { w0 := w, A := keys A, n := n } (env0 args 0) A) : Ctr P f args A pre R := by
  subst hnt
  intro w h1 h2 h3
  refine (callsIn_wide (n := 4)).1 (callsIn_of_wp_marks hf hb trivial (wpIn_n (ro := none) (n := 0) ?_))
  refine wpIn_mono (h w h3 _ w (start_sat h1 h2 (Nat.le_of_ble_eq_true hlen))) ?_
  intro e a w hq
  cases e <;> first | exact hq | exact hq.elim

/-! ### Iterators -/
/-- What a call of yield does, and what the caller's word abides. -/
structure It {α : Type} (P : Program) (l : Nat) (encs : α → Array Value) (J Jx : List α → World → Prop) (w : World) (Bk : List Nat) (Bx : Hp) (V : List α → α → Prop) : Prop where
  yl : ∀ pre x W1, J pre W1 → V pre x → YieldAt Fence.wide 3 P l (encs x) W1 fun e W' =>
      (e = .returned (.bool true) ∧ J (pre ++ [x]) W' ∧ Kpr w Bk W1 W') ∨ (e = .returned (.bool false) ∧ Jx (pre ++ [x]) W')
  sj : ∀ xs W W', J xs W → Keeps [] W W' → J xs W'
  sx : ∀ xs W W', Jx xs W → Keeps [] W W' → Jx xs W'
  nd : (keys Bx).Nodup
  lt : ∀ x ∈ Bx, x.1 < w.heap.size ∧ x.1 ∉ Bk
/-- Where an iterator stands between two calls of yield. -/
def Jb {α : Type} (J : List α → World → Prop) (Bx : Hp) (pre : List α) (W : World) : Prop := J pre W ∧ ∀ x ∈ Bx, W.heap[x.1]? = some x.2
theorem At.keeps0 {W w : World} {Bx B : Hp} (h : At W (keys Bx) M w) (hb : ∀ x ∈ Bx, W.heap[x.1]? = some x.2) {is : List Nat} (hp : hpick M is = some B) (e : B = Bx) : Keeps [] W w := by
  subst e
  refine ⟨h.keeps.os, h.keeps.tape, h.keeps.output, h.keeps.size, fun k hk _ => ?_⟩
  by_cases hm : k ∈ keys B
  · obtain ⟨x, hx, rfl⟩ := List.mem_map.1 hm
    rw [hb x hx, h.holds x (hpick_mem hp x hx)]
  · exact h.keeps.block k hk hm
def StopPost {α : Type} (S Sp : List α → Prop) (J Jx : List α → World → Prop) : Ending → World → Prop := fun e W' => (∃ v, e = .returned v) ∧ ((∃ xs, S xs ∧ J xs W') ∨ (∃ pre, Sp pre ∧ Jx pre W'))
theorem Keeps.grown {W W' : World} (h : Keeps [] W W') : W.grownBy W' none := ⟨h.os, h.tape, h.output, h.size, fun k hk _ => h.block k hk (by simp)⟩
theorem Seq.enter {α : Type} {f n : Nat} {fn : Func} {c : Code} {lb : List Value} {encs : α → Array Value} {V : List α → α → Prop} {S Sp : List α → Prop} {w : World} {Bk : List Nat} {Bx : Hp} (hf : P.funcs[f]? = some fn) (hnt : fn.ntmps = n) (hb : fn.body = some c) (hlen : Nat.ble (lb.length + 1) n = true)
    (hnd : (keys Bx).Nodup) (hBx : ∀ x ∈ Bx, w.heap[x.1]? = some x.2) (hBk : ∀ x ∈ Bx, x.1 ∉ Bk)
    (h : ∀ l J Jx W, It P l encs J Jx w Bk Bx V → Jb J Bx [] W → C P c (bodyPost P fn (StopPost S Sp J Jx)) { w0 := W, A := keys Bx, n := n } (env0 (.func (.yield l) #[] #[] :: lb) 0) Bx) :
    SeqV P f lb.toArray encs (Kpr w Bk) V S Sp w := by
  subst hnt
  intro l J Jx W hbw hJ hJx hY h0
  have hW : ∀ x ∈ Bx, W.heap[x.1]? = some x.2 := fun x hx => (hbw.block x.1 (some_lt (hBx x hx))).trans (hBx x hx)
  have hit : It P l encs J Jx w Bk Bx V := ⟨hY, fun xs W W' h k => hJ xs W W' none h k.grown (fun r e => by cases e), fun xs W W' h k => hJx xs W W' none h k.grown (fun r e => by cases e), hnd, fun x hx => ⟨some_lt (hBx x hx), hBk x hx⟩⟩
  have e : #[Value.func (.yield l) #[] #[]] ++ lb.toArray = (Value.func (.yield l) #[] #[] :: lb).toArray := by simp
  rw [e]
  refine (callsIn_wide (n := 4)).2 (calls_of_wp hf hb (wpIn_wide (n := 0).1 ?_))
  exact h l J Jx W hit ⟨h0, hW⟩ _ W (start_sat hnd hW (by simpa using Nat.le_of_ble_eq_true hlen))
theorem roundIn_n {n m : Nat} {P : Program} {l f : Nat} {tmps : Array Value} {assign body : Code} {w : World} {R : Ending → World → Prop} (h : RoundIn Fence.wide n P l f tmps assign body w R) : RoundIn Fence.wide m P l f tmps assign body w R := ⟨h.1, fun c cs _ => h.2 c cs (fen_room none _)⟩
/-- A call of yield. -/
theorem L.yieldK {α : Type} {ops : Array Oper} {rest : List Oper} {d t n : Nat} {pos : String} {af : Array Edge} {dl : List Deferred} {l : Nat} {V : List α → α → Prop} {encs : α → Array Value} {J Jx : List α → World → Prop} {w W : World} {Bk : List Nat} {Bx B : Hp} (hit : It P l encs J Jx w Bk Bx V)
    {pre : List α} (x : α) {g : Operand} {xs : List Operand} {ts : Array TypeId} {vs : List Value} (is : List Nat) (hJ : Jb J Bx pre W) (hN : V pre x) (hn : Nat.blt d n = true) (hg : ev E g = some (.func (.yield l) #[] #[])) (hx : evs E xs = some vs) (he : encs x = vs.toArray)
    (hp : hpick M is = some B) (hB : B = Bx)
    (kt : ∀ W', Jb J Bx (pre ++ [x]) W' → (∀ k o, k < w.heap.size → k ∉ Bk → k ∉ keys Bx → W.heap[k]? = some o → W'.heap[k]? = some o) → L P ops Q rest { w0 := W', A := keys Bx, n := n, ro := none, dl := dl } ((d, .bool true) :: E) Bx)
    (kf : ∀ W', Jx (pre ++ [x]) W' → L P ops Q rest { w0 := W', A := [], n := n, ro := none, dl := dl } ((d, .bool false) :: E) []) :
    L P ops Q (⟨some d, .call { callee := .value g, args := xs.toArray, argTypes := ts }, t, pos, af, none⟩ :: rest) { w0 := W, A := keys Bx, n := n, ro := none, dl := dl } E M := by
  intro a w1 hs
  have hk := hs.at_.keeps0 hJ.2 hp hB
  obtain ⟨fn, tmps, assign, body, hrun, hround⟩ := hit.yl pre x w1 (hit.sj _ _ _ hJ.1 hk) hN
  have hBx1 : ∀ y ∈ Bx, w1.heap[y.1]? = some y.2 := fun y hy => hs.at_.holds y (hpick_mem hp y (hB ▸ hy))
  have hr : (execOp a.eval ⟨some d, .call { callee := .value g, args := xs.toArray, argTypes := ts }, t, pos, af, none⟩).run P w1 = .ok (.round l fn tmps assign body) w1 := by
    show Sem.run P (do let d ← resolve a.eval { callee := .value g, args := xs.toArray, argTypes := ts } t; invoke d.target d.args) w1 = _
    unfold resolve
    simp only [List.map_toArray, evs_map hs hx, hs.ev hg]
    show Sem.run P (Instr.yield l ((#[] ++ vs.toArray) ++ #[])) w1 = _
    rw [show ((#[] : Array Value) ++ vs.toArray) ++ #[] = encs x by rw [he]; simp]
    exact hrun
  refine wpListIn_plain rfl fun K hK => ⟨fun _ _ => trivial, ?_⟩
  rw [Oper.semAt_eq _ _ _ (by intro c h; cases h), hr]
  refine ⟨(fun h => by cases h), ?_⟩
  refine (roundIn_n (m := 0 - 1) hround).mono ?_
  rintro e W' (⟨rfl, hj, hkp⟩ | ⟨rfl, hj⟩)
  · refine hK _ _ (kt W' ⟨hj, fun y hy => ?_⟩ (fun k o hk1 hk2 hk3 hk4 => by rw [hkp k hk1 hk2, hs.at_.keeps.block k (some_lt hk4) hk3]; exact hk4) _ _ ⟨?_, ?_, ?_, ?_⟩)
    · obtain ⟨h1, h2⟩ := hit.lt y hy
      rw [hkp y.1 h1 h2]; exact hBx1 y hy
    · exact At.own hit.nd (fun y hy => by
        obtain ⟨h1, h2⟩ := hit.lt y hy
        rw [hkp y.1 h1 h2]; exact hBx1 y hy)
    · exact hs.defers
    · have := (hs.put hn (.bool true) hs.at_).size; exact this
    · exact (hs.put hn (.bool true) hs.at_).env
  · refine hK _ _ (kf W' hj _ _ ⟨?_, ?_, ?_, ?_⟩)
    · exact ⟨Keeps.refl _ _, by simp [keys], by simp, by simp⟩
    · exact hs.defers
    · exact (hs.put hn (.bool false) hs.at_).size
    · exact (hs.put hn (.bool false) hs.at_).env
theorem L.yield {α : Type} {ops : Array Oper} {rest : List Oper} {d t n : Nat} {pos : String} {af : Array Edge} {dl : List Deferred} {l : Nat} {V : List α → α → Prop} {encs : α → Array Value} {J Jx : List α → World → Prop} {w W : World} {Bk : List Nat} {Bx B : Hp} (hit : It P l encs J Jx w Bk Bx V)
    {pre : List α} (x : α) {g : Operand} {xs : List Operand} {ts : Array TypeId} {vs : List Value} (is : List Nat) (hJ : Jb J Bx pre W) (hN : V pre x) (hn : Nat.blt d n = true) (hg : ev E g = some (.func (.yield l) #[] #[])) (hx : evs E xs = some vs) (he : encs x = vs.toArray)
    (hp : hpick M is = some B) (hB : B = Bx)
    (kt : ∀ W', Jb J Bx (pre ++ [x]) W' → L P ops Q rest { w0 := W', A := keys Bx, n := n, ro := none, dl := dl } ((d, .bool true) :: E) Bx)
    (kf : ∀ W', Jx (pre ++ [x]) W' → L P ops Q rest { w0 := W', A := [], n := n, ro := none, dl := dl } ((d, .bool false) :: E) []) :
    L P ops Q (⟨some d, .call { callee := .value g, args := xs.toArray, argTypes := ts }, t, pos, af, none⟩ :: rest) { w0 := W, A := keys Bx, n := n, ro := none, dl := dl } E M :=
  L.yieldK hit x is hJ hN hn hg hx he hp hB (fun W' h _ => kt W' h) kf
/-- A loop whose rounds begin each at a world of its own. -/
theorem C.loopS {α : Type} {c : Code} (G : α → Prop) (SI : α → St) (EI : α → Env) (MI : α → Hp) (μ : α → Nat) (x0 : α) (hro : ∀ x, (SI x).ro = s.ro) (h0 : ∀ a w, Sat s E M a w → Sat (SI x0) (EI x0) (MI x0) a w) (g0 : G x0)
    (round : ∀ x, G x → C P c (Exit.then (fun a w => ∃ y, G y ∧ μ y < μ x ∧ Sat (SI y) (EI y) (MI y) a w) Q) (SI x) (EI x) (MI x)) : C P (.loop c) Q s E M := by
  intro a w hs
  have hl : ∀ a w, (∃ x, G x ∧ Sat (SI x) (EI x) (MI x) a w) → ∃ n, (∃ x, G x ∧ Sat (SI x) (EI x) (MI x) a w ∧ μ x = n) ∧ ∀ m, (∃ x, G x ∧ Sat (SI x) (EI x) (MI x) a w ∧ μ x = m) → n ≤ m :=
    fun a w ⟨x, h1, h2⟩ => least ⟨μ x, x, h1, h2, rfl⟩
  open Classical in
  refine wpIn_loop (fun a w => ∃ x, G x ∧ Sat (SI x) (EI x) (MI x) a w) (fun a w => if h : ∃ x, G x ∧ Sat (SI x) (EI x) (MI x) a w then Classical.choose (hl a w h) else 0) ⟨x0, g0, h0 a w hs⟩ ?_
  intro a w hI
  obtain ⟨⟨x, h1, h2, h3⟩, _⟩ := Classical.choose_spec (hl a w hI)
  have hr := round x h1 a w h2
  rw [hro x] at hr
  refine wpIn_mono hr ?_
  intro e a' w' hq
  cases e with
  | normal =>
    obtain ⟨y, hy, hlt, hsy⟩ := hq
    refine ⟨⟨y, hy, hsy⟩, ?_⟩
    rw [dif_pos (⟨y, hy, hsy⟩ : ∃ x, G x ∧ Sat (SI x) (EI x) (MI x) a' w'), dif_pos hI]
    have := (Classical.choose_spec (hl a' w' ⟨y, hy, hsy⟩)).2 (μ y) ⟨y, hy, hsy, rfl⟩
    omega
  | exit id => exact hq
  | goto l => exact hq
  | ret => exact hq
  | panic ch => exact hq
  | outgrown => exact hq
end
end Go.Proofs.Ytbackpcohkblfaa.SL

/- The separation logic's rule for a drawn region that turns nothing of one's own: taken in the text's order. Calls may stand in it, and it may stand in a round. No program in sight. -/
namespace Go.Proofs.Ytbackpcohkblfaa.SL
open Go Go.RowKit

/-- One operation has yielded v; nothing of one's own is turned. -/
def EndsQ (s : St) (d : Nat) (v : Value) (M : Hp) : Exit → Act → World → Prop := fun e a w => e = .normal ∧ a.tmps[d]? = some v ∧ a.defers = s.dl ∧ At s.w0 s.A M w
def QL (P : Program) (ops : Array Oper) (Q : Exit → Act → World → Prop) : List Oper → St → Env → Hp → Prop
  | [], s, E, M => D Q .normal s E M
  | o :: rest, s, E, M => ∃ d v, o.dst = some d ∧ d < s.n ∧ L P ops (EndsQ s d v M) [o] s E M ∧ QL P ops Q rest s ((d, v) :: E) M
def plainOp : Op → Bool
  | .defer _ | .select _ _ => false
  | _ => true
def qOk (ops : Array Oper) : Bool := (List.range ops.size).all fun i => match ops[i]? with
  | none => false
  | some o => o.dst.isSome && plainOp o.op && o.after.all (fun e => !Region.binds .any e || Nat.blt e.on i) &&
    (o.looksAt ops).all (fun x => (List.range ops.size).all fun j => match ops[j]? with
      | some p => p.dst != some x || (o.after.any fun e => Region.binds .any e && e.on == j)
      | none => true) &&
    (List.range ops.size).all (fun j => j == i || match ops[j]? with
      | some p => p.dst != o.dst
      | none => true)
def tEnv : List Oper → List Value → Env → Env
  | o :: os, v :: vs, E => tEnv os vs ((o.dst.getD 0, v) :: E)
  | _, _, E => E
section
variable {P : Program} {ops : Array Oper} {Q : Exit → Act → World → Prop} {s : St} {E : Env} {M : Hp}
theorem D.endsQ {d : Nat} {v : Value} {M' : Hp} {w0 : World} {A : List Nat} {n : Nat} {ro : Option Nat} {dl : List Deferred} (h : lk E d = some v := by exact rfl) (hM : M' = M := by exact rfl) : D (EndsQ { w0 := w0, A := A, n := n, ro := ro, dl := dl } d v M) .normal { w0 := w0, A := A, n := n, ro := ro, dl := dl } E M' :=
  fun _ _ hs => ⟨rfl, hs.env _ _ h, hs.defers, hM ▸ hs.at_⟩
theorem QL.step {o : Oper} {rest : List Oper} {d : Nat} {v : Value} (hd : o.dst = some d := by exact rfl) (hn : Nat.blt d s.n = true := by exact rfl) (h : L P ops (EndsQ s d v M) [o] s E M) (k : QL P ops Q rest s ((d, v) :: E) M) : QL P ops Q (o :: rest) s E M :=
  ⟨d, v, hd, by simpa [Nat.blt_eq] using hn, h, k⟩
theorem QL.fin (h : D Q .normal s E M) : QL P ops Q [] s E M := h
theorem lk_tEnv : ∀ {os : List Oper} {vs : List Value} {E : Env} {x : Nat} {v : Value}, os.length = vs.length → lk (tEnv os vs E) x = some v →
    (∃ (j : Nat) (o : Oper), os[j]? = some o ∧ o.dst.getD 0 = x ∧ vs[j]? = some v) ∨ ((∀ (j : Nat) (o : Oper), os[j]? = some o → o.dst.getD 0 ≠ x) ∧ lk E x = some v)
  | [], vs, E, x, v, _, h => by
    unfold tEnv at h
    exact .inr ⟨fun j o hj => by simp at hj, h⟩
  | o :: os, [], E, x, v, hl, h => by cases hl
  | o :: os, u :: vs, E, x, v, hl, h => by
    unfold tEnv at h
    rcases lk_tEnv (by simpa using hl) h with ⟨j, p, h1, h2, h3⟩ | ⟨h1, h2⟩
    · exact .inl ⟨j + 1, p, by simpa using h1, h2, by simpa using h3⟩
    · rcases lk_put h2 with ⟨rfl, rfl⟩ | ⟨hne, h2⟩
      · exact .inl ⟨0, o, rfl, rfl, rfl⟩
      · refine .inr ⟨fun j p hj => ?_, h2⟩
        cases j with
        | zero => cases hj; exact fun e => hne e.symm
        | succ j => exact h1 j p (by simpa using hj)
theorem tEnv_hit : ∀ {os : List Oper} {vs : List Value} {E : Env} {x : Nat} {v : Value} {j : Nat} {o : Oper}, os[j]? = some o → vs[j]? = some v → o.dst.getD 0 = x → os.length = vs.length → (∀ (k : Nat) (p : Oper), os[k]? = some p → k ≠ j → p.dst.getD 0 ≠ x) → lk (tEnv os vs E) x = some v
  | [], vs, E, x, v, j, o, h, _, _, _, _ => by simp at h
  | p :: os, [], E, x, v, j, o, h, _, _, hl, _ => by cases hl
  | p :: os, u :: vs, E, x, v, 0, o, h, hv, hx, hl, hne => by
    cases h; cases hv
    unfold tEnv
    have : ∀ {os : List Oper} {vs : List Value} {E : Env}, lk E x = some u → (∀ (k : Nat) (p : Oper), os[k]? = some p → p.dst.getD 0 ≠ x) → lk (tEnv os vs E) x = some u := by
      intro os
      induction os with
      | nil => intro vs E h _; unfold tEnv; exact h
      | cons p os ih =>
        intro vs E h hn
        cases vs with
        | nil => unfold tEnv; exact h
        | cons u vs =>
          unfold tEnv
          refine ih ?_ (fun k q hk => hn (k + 1) q (by simpa using hk))
          have := hn 0 p rfl
          unfold lk
          cases hb : Nat.beq (p.dst.getD 0) x
          · exact h
          · exact absurd (Nat.eq_of_beq_eq_true hb) this
    refine this ?_ (fun k q hk => hne (k + 1) q (by simpa using hk) (by omega))
    unfold lk
    rw [hx, Nat.beq_refl]
  | p :: os, u :: vs, E, x, v, j + 1, o, h, hv, hx, hl, hne => by
    unfold tEnv
    exact tEnv_hit (j := j) (by simpa using h) (by simpa using hv) hx (by simpa using hl) (fun k q hk hkj => hne (k + 1) q (by simpa using hk) (by omega))
theorem tEnv_miss : ∀ {os : List Oper} {vs : List Value} {E : Env} {x : Nat}, (∀ (k : Nat) (p : Oper), os[k]? = some p → p.dst.getD 0 ≠ x) → lk (tEnv os vs E) x = lk E x
  | [], vs, E, x, _ => by unfold tEnv; rfl
  | p :: os, [], E, x, _ => by unfold tEnv; rfl
  | p :: os, u :: vs, E, x, hn => by
    unfold tEnv
    rw [tEnv_miss (fun k q hk => hn (k + 1) q (by simpa using hk))]
    have := hn 0 p rfl
    conv => lhs; unfold lk
    cases hb : Nat.beq (p.dst.getD 0) x
    · rfl
    · exact absurd (Nat.eq_of_beq_eq_true hb) this
theorem QL.vals : ∀ {l : List Oper} {E : Env}, QL P ops Q l s E M → ∃ vs : List Value, vs.length = l.length ∧ D Q .normal s (tEnv l vs E) M ∧
    ∀ (i : Nat) (o : Oper) (v : Value), l[i]? = some o → vs[i]? = some v → ∃ d, o.dst = some d ∧ d < s.n ∧ L P ops (EndsQ s d v M) [o] s (tEnv (l.take i) (vs.take i) E) M
  | [], E, h => ⟨[], rfl, by unfold tEnv; exact h, fun i o v hi => by simp at hi⟩
  | o :: l, E, ⟨d, v, hd, hn, h1, h2⟩ => by
    obtain ⟨vs, hl, hD, hs⟩ := QL.vals h2
    refine ⟨v :: vs, by simp [hl], ?_, ?_⟩
    · unfold tEnv; rw [hd]; exact hD
    · intro i p u hi hu
      cases i with
      | zero => cases hi; cases hu; exact ⟨d, hd, hn, by simpa [tEnv] using h1⟩
      | succ i =>
        obtain ⟨e, g1, g2, g3⟩ := hs i p u (by simpa using hi) (by simpa using hu)
        refine ⟨e, g1, g2, ?_⟩
        rw [List.take_succ_cons, List.take_succ_cons]
        unfold tEnv; rw [hd]; exact g3
theorem act_eval_of {a a' : Act} {L : List Nat} (h : ∀ x ∈ L, a.tmps[x]? = a'.tmps[x]?) {x : Operand} (hx : ∀ t, x = .tmp t → t ∈ L) : a.eval x = a'.eval x := by
  cases x with
  | tmp t =>
    show a.tmps.getD t undef = a'.tmps.getD t undef
    rw [Array.getD_eq_getD_getElem?, Array.getD_eq_getD_getElem?, h t (hx t rfl)]
  | const c => rfl
  | global g => rfl
  | func f => rfl
theorem wanted_of {a a' : Act} {o : Oper} (h : ∀ x ∈ o.looksAt ops, a.tmps[x]? = a'.tmps[x]?) : Region.wanted o (yielded ops a.tmps) = Region.wanted o (yielded ops a'.tmps) := by
  unfold Region.wanted
  cases hg : o.guard with
  | none => rfl
  | some gw =>
    obtain ⟨g, want⟩ := gw
    have hy : yielded ops a.tmps g = yielded ops a'.tmps g := by
      unfold yielded
      cases ht : (ops[g]?).bind (·.dst) with
      | none => rfl
      | some t =>
        simp only [Option.bind_some]
        rw [h t (by simp [Oper.looksAt, hg, ht])]
    simp only [hy]
/-- The same operation, begun where all that it looks at is alike. -/
theorem wpOp_like {ro : Option Nat} {o : Oper} {i d : Nat} {v : Value} {K : Act → World → Prop} {a a' : Act} {w : World} (ho : ops[i]? = some o) (hp : plainOp o.op = true) (hd : o.dst = some d) (hlt : d < a'.tmps.size) (hdl : a'.defers = s.dl)
    (h : ∀ x ∈ o.looksAt ops, a.tmps[x]? = a'.tmps[x]?) (hw : wpListIn (fen ro) 0 P ops (EndsQ s d v M) [o] a' w) (hK : ∀ w', At s.w0 s.A M w' → K (a.put (some d) v) w') : wpOpIn (fen ro) 0 P ops Q i K a w := by
  have hops : ∀ x ∈ o.op.operands, a.eval x = a'.eval x := fun x hx => act_eval_of h (fun t ht => by
    subst ht
    exact List.mem_append_left _ (List.mem_filterMap.2 ⟨.tmp t, by simpa using hx, rfl⟩))
  have hexec : execOp a.eval o = execOp a'.eval o := execOp_congr o (fun cs b e => by rw [e] at hp; cases hp) hops
  have habout : o.about P w a.eval = o.about P w a'.eval := about_congr o w hops
  have hput : ∀ u w', EndsQ s d v M .normal (a'.put o.dst u) w' → K (a.put o.dst u) w' := by
    intro u w' ⟨_, h1, _, h2⟩
    rw [hd] at h1 ⊢
    simp only [Act.put, Array.getElem?_setIfInBounds_self_of_lt hlt] at h1
    cases h1
    exact hK w' h2
  unfold wpOpIn
  simp only [ho]
  rw [wanted_of h, habout]
  unfold wpListIn at hw
  split
  · rename_i hwt
    rw [if_pos hwt] at hw
    unfold Oper.wpIn at hw ⊢
    rw [habout]
    refine ⟨hw.1, ?_⟩
    have hw := hw.2
    have hnd : ∀ c, o.op ≠ .defer c := fun c e => by rw [e] at hp; cases hp
    rw [Oper.semAt_eq _ _ _ hnd] at hw ⊢
    rw [hexec]
    generalize (execOp a'.eval o).run P w = r at *
    have hnl : ∀ X : Exit → Act → World → Prop, ¬ LetsOut (EndsQ s d v M) := fun X ⟨a, w, h, _⟩ => by cases h
    cases r with
    | ok x w' =>
      cases x <;> simp only [Oper.uponIn, wpListIn] at hw ⊢
      case value u => exact hput u w' hw
      case skip => exact hput _ w' hw
      case defer dd =>
        obtain ⟨_, _, h3, _⟩ := hw
        have h3' : dd :: a'.defers = s.dl := by
          cases hdst : o.dst <;> (rw [hdst] at h3; exact h3)
        rw [hdl] at h3'
        exact absurd (congrArg List.length h3') (by simp)
      case enter f args =>
        refine ⟨hw.1, CallsIn.mono hw.2 fun e w'' he => ?_⟩
        cases e with
        | returned u => exact hput u w'' he
        | panicked c => exact absurd he.1 (by simp)
        | outgrown => exact absurd he (hnl Q)
      case row row args => exact ⟨hw.1, RowsIn.mono hw.2 fun u w'' he => hput u w'' he⟩
      case round l f tmps assign body =>
        refine ⟨hw.1, RoundIn.mono hw.2 fun e w'' he => ?_⟩
        cases e with
        | returned u => exact hput u w'' he
        | panicked c => exact absurd he.1 (by simp)
        | outgrown => exact absurd he (hnl Q)
    | halt x w' =>
      cases x <;> simp only [Oper.uponIn] at hw ⊢
      case panic u => exact absurd hw.1 (by simp)
  · rename_i hwt
    rw [if_neg hwt] at hw
    exact ⟨hw.1, hput _ w hw.2⟩
def un (n : Nat) (listed : Array Bool) : List Nat := (List.range n).filter fun j => !listed.getD j true
theorem un_set {n i : Nat} {listed : Array Bool} (hi : i < n) (hs : listed.size = n) (hu : listed.getD i true = false) : (un n (listed.setIfInBounds i true)).length + 1 ≤ (un n listed).length := by
  have hm : i ∈ un n listed := List.mem_filter.2 ⟨List.mem_range.2 hi, by rw [hu]; rfl⟩
  have hnd : (un n listed).Nodup := List.nodup_range.filter _
  have e : un n (listed.setIfInBounds i true) = (un n listed).erase i := by
    rw [hnd.erase_eq_filter]
    unfold un
    rw [List.filter_filter]
    apply List.filter_congr
    intro j hj
    by_cases hji : j = i
    · subst hji
      simp [Array.getD_eq_getD_getElem?, Array.getElem?_setIfInBounds_self_of_lt (hs ▸ hi)]
    · rw [Array.getD_eq_getD_getElem?, Array.getD_eq_getD_getElem?, Array.getElem?_setIfInBounds_ne (fun e => hji e.symm)]
      simp [hji]
  rw [e, List.length_erase_of_mem hm]
  have : 0 < (un n listed).length := List.length_pos_of_mem hm
  omega
theorem QL.any {l : List Oper} {E0 : Env} (hq : qOk l.toArray = true) (hE : ∀ i v, lk E0 i = some v → i < s.n) (h : QL P l.toArray Q l s E0 M) : N P l.toArray Q l.length (Array.replicate l.length false) s E0 M := by
  obtain ⟨vs, hvl, hfin, hstep⟩ := h.vals
  have hq' : ∀ (i : Nat) (o : Oper), l[i]? = some o → plainOp o.op = true ∧ (∀ e ∈ o.after, Region.binds .any e = true → e.on < i) ∧
      (∀ x ∈ o.looksAt l.toArray, ∀ (j : Nat) (p : Oper), l[j]? = some p → p.dst = some x → ∃ e ∈ o.after, Region.binds .any e = true ∧ e.on = j) ∧ (∀ (j : Nat) (p : Oper), l[j]? = some p → j ≠ i → p.dst ≠ o.dst) := by
    intro i o hi
    unfold qOk at hq
    have hlt : i < l.length := (List.getElem?_eq_some_iff.1 hi).1
    have h1 := List.all_eq_true.1 hq i (by simpa using hlt)
    simp only [List.getElem?_toArray, hi, Bool.and_eq_true] at h1
    obtain ⟨⟨⟨⟨_, g1⟩, g2⟩, g3⟩, g4⟩ := h1
    refine ⟨g1, fun e he hb => ?_, fun x hx j p hj hp => ?_, fun j p hj hne => ?_⟩
    · have := Array.all_eq_true'.1 g2 e he
      simpa [hb, Nat.blt_eq] using this
    · have h2 := List.all_eq_true.1 (List.all_eq_true.1 g3 x hx) j (by simpa using (List.getElem?_eq_some_iff.1 hj).1)
      simp only [hj, hp, bne_self_eq_false, Bool.false_or] at h2
      obtain ⟨e, he, hb⟩ := Array.any_eq_true'.1 h2
      simp only [Bool.and_eq_true, beq_iff_eq] at hb
      exact ⟨e, he, hb.1, hb.2⟩
    · have h2 := List.all_eq_true.1 g4 j (by simpa using (List.getElem?_eq_some_iff.1 hj).1)
      simp only [hj, Bool.or_eq_true, beq_iff_eq, hne, false_or, bne_iff_ne] at h2
      exact h2
  have hdst : ∀ (i : Nat) (o : Oper) (v : Value), l[i]? = some o → vs[i]? = some v → ∃ d, o.dst = some d ∧ d < s.n := fun i o v h1 h2 => by
    obtain ⟨d, g1, g2, _⟩ := hstep i o v h1 h2; exact ⟨d, g1, g2⟩
  have hval : ∀ (i : Nat) (o : Oper), l[i]? = some o → ∃ v, vs[i]? = some v := fun i o hi => by
    have hlt : i < vs.length := by rw [hvl]; exact (List.getElem?_eq_some_iff.1 hi).1
    exact ⟨vs[i], List.getElem?_eq_getElem hlt⟩
  -- different operations have different slots
  have hdif : ∀ (i : Nat) (j : Nat) (o : Oper) (p : Oper), l[i]? = some o → l[j]? = some p → j ≠ i → p.dst.getD 0 ≠ o.dst.getD 0 := by
    intro i j o p hi hj hne
    obtain ⟨v, hv⟩ := hval i o hi
    obtain ⟨u, hu⟩ := hval j p hj
    obtain ⟨d, hd, _⟩ := hdst i o v hi hv
    obtain ⟨e, he, _⟩ := hdst j p u hj hu
    have := (hq' i o hi).2.2.2 j p hj hne
    rw [hd, he] at this
    rw [hd, he]
    exact fun h => this (congrArg some h)
  have main : ∀ (fuel : Nat) (listed : Array Bool) (a : Act) (w : World), listed.size = l.length → (un l.length listed).length ≤ fuel → At s.w0 s.A M w → a.defers = s.dl → a.tmps.size = s.n →
      (∀ x v, lk E0 x = some v → (∀ (j : Nat) (o : Oper), l[j]? = some o → o.dst.getD 0 ≠ x) → a.tmps[x]? = some v) →
      (∀ (j : Nat) (o : Oper) (v : Value), l[j]? = some o → vs[j]? = some v → listed.getD j true = true → a.tmps[o.dst.getD 0]? = some v) →
      wpAnyIn (fen s.ro) 0 P .any l.toArray Q fuel listed a w := by
    intro fuel
    have fin : ∀ (listed : Array Bool) (a : Act) (w : World), (∀ j, j < l.length → listed.getD j true = true) → At s.w0 s.A M w → a.defers = s.dl → a.tmps.size = s.n →
      (∀ x v, lk E0 x = some v → (∀ (j : Nat) (o : Oper), l[j]? = some o → o.dst.getD 0 ≠ x) → a.tmps[x]? = some v) →
      (∀ (j : Nat) (o : Oper) (v : Value), l[j]? = some o → vs[j]? = some v → listed.getD j true = true → a.tmps[o.dst.getD 0]? = some v) → Q .normal a w := by
      intro listed a w hall hw hdl hsz hb hv
      refine hfin a w ⟨hw, hdl, hsz, fun x v hx => ?_⟩
      rcases lk_tEnv hvl.symm hx with ⟨j, o, h1, rfl, h3⟩ | ⟨h1, h2⟩
      · exact hv j o v h1 h3 (hall j (List.getElem?_eq_some_iff.1 h1).1)
      · exact hb x v h2 h1
    have hready : ∀ (listed : Array Bool), listed.size = l.length → Region.ready .any l.toArray listed = [] → ∀ j, j < l.length → listed.getD j true = true := by
      intro listed hsz hr j
      induction j using Nat.strongRecOn with
      | _ j ih =>
        intro hj
        cases hl : listed.getD j true with
        | true => rfl
        | false =>
          exfalso
          have ho : l[j]? = some l[j] := List.getElem?_eq_getElem hj
          have : j ∈ Region.ready .any l.toArray listed := by
            unfold Region.ready
            refine List.mem_filter.2 ⟨by simpa using hj, ?_⟩
            simp only [hl, List.getElem?_toArray, ho, Option.map_some, Option.getD_some, Bool.not_false, Bool.true_and]
            refine Array.all_eq_true'.2 fun e he => ?_
            cases hb : Region.binds .any e with
            | false => rfl
            | true =>
              have hlt := (hq' j _ ho).2.1 e he hb
              have h2 := ih e.on hlt (by omega)
              rw [Array.getD_eq_getD_getElem?] at h2 ⊢
              rw [Array.getElem?_eq_getElem (by omega)] at h2 ⊢
              simpa using h2
          rw [hr] at this; cases this
    induction fuel with
    | zero =>
      intro listed a w hsz hun hw hdl hts hb hv
      have hall : ∀ j, j < l.length → listed.getD j true = true := by
        intro j hj
        cases hl : listed.getD j true with
        | true => rfl
        | false =>
          have : j ∈ un l.length listed := List.mem_filter.2 ⟨List.mem_range.2 hj, by rw [hl]; rfl⟩
          have := List.length_pos_of_mem this
          omega
      refine ⟨?_, fin listed a w hall hw hdl hts hb hv⟩
      unfold Region.ready
      refine List.filter_eq_nil_iff.2 fun j hj => ?_
      rw [hall j (by simpa using hj)]; simp
    | succ fuel ih =>
      intro listed a w hsz hun hw hdl hts hb hv
      refine ⟨fun hr => fin listed a w (hready listed hsz hr) hw hdl hts hb hv, fun i hi => ?_⟩
      unfold Region.ready at hi
      obtain ⟨hir, hi⟩ := List.mem_filter.1 hi
      have hlt : i < l.length := by simpa using hir
      have ho : l[i]? = some l[i] := List.getElem?_eq_getElem hlt
      obtain ⟨o, hoe⟩ : ∃ (o : Oper), o = l[i] := ⟨_, rfl⟩
      rw [← hoe] at ho
      simp only [List.getElem?_toArray, ho, Option.map_some, Option.getD_some, Bool.and_eq_true, Bool.not_eq_true'] at hi
      obtain ⟨hun_i, hafter⟩ := hi
      obtain ⟨v, hvi⟩ := hval i o ho
      obtain ⟨d, hd, hdn, hL⟩ := hstep i o v ho hvi
      obtain ⟨q1, q2, q3, q4⟩ := hq' i o ho
      have hdeps : ∀ e ∈ o.after, Region.binds .any e = true → listed.getD e.on true = true := by
        intro e he hbd
        have := Array.all_eq_true'.1 hafter e he
        simp only [hbd, Bool.not_true, Bool.false_or] at this
        have hlt2 := q2 e he hbd
        rw [Array.getD_eq_getD_getElem?] at this ⊢
        rw [Array.getElem?_eq_getElem (by omega)] at this ⊢
        simpa using this
      -- where the text's order would stand
      obtain ⟨Ei, hEi⟩ : ∃ Ei, Ei = tEnv (l.take i) (vs.take i) E0 := ⟨_, rfl⟩
      rw [← hEi] at hL
      have htl : (l.take i).length = (vs.take i).length := by rw [List.length_take, List.length_take, hvl]
      have hlt_of : ∀ x u, lk Ei x = some u → x < s.n := by
        intro x u hx
        rw [hEi] at hx
        rcases lk_tEnv htl hx with ⟨j, p, h1, rfl, h3⟩ | ⟨_, h2⟩
        · rw [List.getElem?_take] at h1 h3
          split at h1
          · rename_i hji
            rw [if_pos hji] at h3
            obtain ⟨e, he, hen⟩ := hdst j p u h1 h3
            rw [he]; exact hen
          · cases h1
        · exact hE x u h2
      obtain ⟨a', ha'⟩ : ∃ a' : Act, a' = { a with tmps := Array.ofFn (n := s.n) fun k => (lk Ei k.1).getD (a.tmps.getD k.1 undef) } := ⟨_, rfl⟩
      have ht' : ∀ x, x < s.n → a'.tmps[x]? = some ((lk Ei x).getD (a.tmps.getD x undef)) := by
        intro x hx
        rw [ha']
        simp [hx]
      have hsz' : a'.tmps.size = s.n := by rw [ha']; simp
      have hdl' : a'.defers = s.dl := by rw [ha']; exact hdl
      have hsat : Sat s Ei M a' w := ⟨hw, hdl', hsz', fun x u hx => by rw [ht' x (hlt_of x u hx), hx]; rfl⟩
      have hsame : ∀ x ∈ o.looksAt l.toArray, a.tmps[x]? = a'.tmps[x]? := by
        intro x hx
        rcases Nat.lt_or_ge x s.n with hxn | hxn
        · rw [ht' x hxn]
          cases hl : lk Ei x with
          | none =>
            rw [Array.getD_eq_getD_getElem?, Array.getElem?_eq_getElem (by omega)]; rfl
          | some u =>
            rw [hEi] at hl
            rcases lk_tEnv htl hl with ⟨j, p, h1, hpx, h3⟩ | ⟨h1, h2⟩
            · rw [List.getElem?_take] at h1 h3
              split at h1
              · rename_i hji
                rw [if_pos hji] at h3
                obtain ⟨e, he, hen⟩ := hdst j p u h1 h3
                have hpx' : p.dst = some x := by rw [he] at hpx ⊢; simpa using hpx
                obtain ⟨ed, hed, hbd, rfl⟩ := q3 x hx j p h1 hpx'
                have := hv ed.on p u h1 h3 (hdeps ed hed hbd)
                rw [hpx] at this; exact this
              · cases h1
            · refine hb x u h2 (fun j p hj e => ?_)
              obtain ⟨u', hu'⟩ := hval j p hj
              obtain ⟨e', he', _⟩ := hdst j p u' hj hu'
              have hpx' : p.dst = some x := by rw [he'] at e ⊢; simpa using e
              obtain ⟨ed, hed, hbd, rfl⟩ := q3 x hx j p hj hpx'
              have hlt2 := q2 ed hed hbd
              exact h1 ed.on p (by rw [List.getElem?_take, if_pos hlt2]; exact hj) e
        · rw [Array.getElem?_eq_none (by omega), Array.getElem?_eq_none (by omega)]
      refine wpOp_like (s := s) (M := M) (v := v) (by simpa using ho) q1 hd (by rw [hsz']; exact hdn) hdl' hsame (hL a' w hsat) (fun w' hw' => ?_)
      refine ih _ _ _ (by simpa using hsz) (by have := un_set hlt hsz hun_i; omega) hw' hdl (by simpa [Act.put] using hts) (fun x u hx hn => ?_) (fun j p u hj hu hlj => ?_)
      · have hne := hn i o ho
        rw [hd] at hne
        simp only [Act.put]
        rw [Array.getElem?_setIfInBounds_ne (by simpa using hne)]
        exact hb x u hx hn
      · simp only [Act.put]
        by_cases hji : j = i
        · subst hji
          rw [ho] at hj; cases hj
          rw [hvi] at hu; cases hu
          rw [hd]
          simp only [Option.getD_some]
          rw [Array.getElem?_setIfInBounds_self_of_lt (by rw [hts]; exact hdn)]
        · have hne := hdif i j o p ho hj hji
          rw [hd] at hne
          rw [Array.getElem?_setIfInBounds_ne (fun e => hne (by simpa using e.symm))]
          refine hv j p u hj hu ?_
          rw [Array.getD_eq_getD_getElem?, Array.getElem?_setIfInBounds_ne (fun e => hji e.symm)] at hlj
          rw [Array.getD_eq_getD_getElem?]; exact hlj
  intro a w hs
  refine main l.length _ a w (by simp) (by unfold un; exact Nat.le_trans (List.length_filter_le _ _) (by simp)) hs.at_ hs.defers hs.size (fun x v hx _ => hs.env x v hx) (fun j o v hj hv hl => ?_)
  have hlt : j < l.length := (List.getElem?_eq_some_iff.1 hj).1
  simp [hlt] at hl
theorem lks_lt : ∀ {E : Env} {n : Nat}, E.all (fun x => Nat.blt x.1 n) = true → ∀ i v, lk E i = some v → i < n
  | [], _, _, _, _, h => by cases h
  | (j, u) :: E, n, ha, i, v, h => by
    simp only [List.all_cons, Bool.and_eq_true] at ha
    rcases lk_put h with ⟨rfl, _⟩ | ⟨_, h⟩
    · simpa [Nat.blt_eq] using ha.1
    · exact lks_lt ha.2 i v h
/-- A drawn region that turns nothing of one's own, in the text's order. -/
theorem C.quiet {id : Nat} {l : List Oper} (hm : P.follows .mixedOrders = true := by kernel_rfl) (hq : qOk l.toArray = true := by decide +kernel) (h : QL P l.toArray Q l s E M) : C P (.region id l.toArray true) Q s E M := by
  intro a w hs
  have hE : ∀ i v, lk E i = some v → i < s.n := fun i v h => by rw [← hs.size]; exact (Array.getElem?_eq_some_iff.1 (hs.env i v h)).1
  exact C.draw hm (QL.any hq hE h) a w hs
end
end Go.Proofs.Ytbackpcohkblfaa.SL

/- The separation logic's rules: structs compared; functions against nil; slices that came in; elements of slices. No program in sight. -/
namespace Go.Proofs.Ytbackpcohkblfaa.SL
open Go Go.RowKit

/-! ### Structs of numbers, texts and truths are compared -/
inductive Kd where
  | int (k : IntKind) | bool | str
def kdOf : TypeDesc → Option Kd
  | .int k => some (.int k)
  | .bool => some .bool
  | .string => some .str
  | _ => none
def eqL : Kd → Value → Value → Option Bool
  | .int k, .int k1 a, .int k2 b => match k1 == k, k2 == k with
    | true, true => some (a == b)
    | _, _ => none
  | .bool, .bool a, .bool b => some (a == b)
  | .str, .string a, .string b => some (seq a b)
  | _, _, _ => none
def eqK : List Kd → List Value → List Value → Option Bool
  | [], _, _ => some true
  | k :: ks, x :: xs, y :: ys => match eqL k x y, eqK ks xs ys with
    | some a, some b => some (a && b)
    | _, _ => none
  | _ :: _, _, _ => none
def flatFs (P : Program) (g : TypeId → Option (List Kd)) : Nat → List Field → Option (List Kd)
  | _, [] => some []
  | off, f :: fs => match f.name != "_" && f.offset == off, g f.type with
    | true, some ks => match (P.info? f.type).map (·.size) == some ks.length, flatFs P g (off + ks.length) fs with
      | true, some r => some (ks ++ r)
      | _, _ => none
    | _, _ => none
def flat (P : Program) : Nat → TypeId → Option (List Kd)
  | 0, _ => none
  | d + 1, T => match P.underlying T with
    | some (.struct fs) => match P.stoodInHeld T with
      | false => flatFs P (flat P d) 0 fs.toList
      | true => none
    | some ds => (kdOf ds).map fun k => [k]
    | none => none
theorem eqK_app : ∀ (ks : List Kd) {rs : List Kd} {xs ys : List Value} {b : Bool}, eqK (ks ++ rs) xs ys = some b →
    ∃ b1 b2, eqK ks (xs.take ks.length) (ys.take ks.length) = some b1 ∧ eqK rs (xs.drop ks.length) (ys.drop ks.length) = some b2 ∧ b = (b1 && b2) ∧ ks.length ≤ xs.length ∧ ks.length ≤ ys.length
  | [], rs, xs, ys, b, h => ⟨true, b, rfl, h, rfl, Nat.zero_le _, Nat.zero_le _⟩
  | k :: ks, rs, [], ys, b, h => by cases ys <;> cases h
  | k :: ks, rs, x :: xs, [], b, h => by cases h
  | k :: ks, rs, x :: xs, y :: ys, b, h => by
    simp only [List.cons_append, eqK] at h
    cases h1 : eqL k x y with
    | none => rw [h1] at h; simp at h
    | some a =>
      rw [h1] at h
      cases h2 : eqK (ks ++ rs) xs ys with
      | none => rw [h2] at h; simp at h
      | some c =>
        rw [h2] at h
        simp only [Option.some.injEq] at h
        obtain ⟨b1, b2, g1, g2, rfl, g3, g4⟩ := eqK_app ks h2
        refine ⟨a && b1, b2, ?_, g2, by rw [← h, Bool.and_assoc], by simpa using g3, by simpa using g4⟩
        simp only [List.length_cons, List.take_succ_cons, eqK, h1, g1]
/-- A part of a struct's cells, as the type tells. -/
def pack (P : Program) (T : TypeId) (xs : List Value) : Value := match P.underlying T with
  | some (.struct _) => .agg xs.toArray
  | _ => xs.headD undef
theorem part_run {P : Program} {T n off : Nat} {xs : List Value} {w : World} {ds : TypeDesc} (hu : P.underlying T = some ds) (hk : (∃ fs, ds = .struct fs) ∨ (aggB ds = false ∧ n = 1)) (hs : (P.info? T).map (·.size) = some n) (hl : off + n ≤ xs.length) :
    (part T xs.toArray off).run P w = .ok (pack P T ((xs.drop off).take n)) w := by
  have hU : Und P T ds := ⟨hu⟩
  unfold part
  rw [run_bind_ok agg_run]
  rcases hk with ⟨fs, rfl⟩ | ⟨hg, rfl⟩
  · show Sem.run P (do pure (Value.agg (xs.toArray.extract off (off + (← sizeOf T))))) w = _
    rw [run_bind_ok (siz_run hs)]
    unfold pack; rw [hu]
    simp [Sem.run, List.extract_eq_take_drop]
  · rw [hg]
    have hlt : off < xs.length := by omega
    have e1 : pack P T ((xs.drop off).take 1) = xs[off] := by
      unfold pack; rw [hu]
      have e : (xs.drop off).take 1 = [xs[off]] := by rw [List.drop_eq_getElem_cons hlt]; rfl
      rw [e]
      cases ds <;> first | rfl | cases hg
    rw [e1]
    simp only [Bool.false_eq_true, if_false]
    simp [hlt, Sem.run]
theorem flat_run {P : Program} : ∀ (d : Nat) {T : TypeId} {ks : List Kd} {xs ys : List Value} {b : Bool} {w : World} (m : Nat), flat P d T = some ks → eqK ks xs ys = some b → d ≤ m →
    (Op.equalIn m T (pack P T (xs.take ks.length)) (pack P T (ys.take ks.length))).run P w = .ok b w
  | 0, T, ks, xs, ys, b, w, m, h, _, _ => by cases h
  | d + 1, T, ks, xs, ys, b, w, 0, h, he, hm => by omega
  | d + 1, T, ks, xs, ys, b, w, m + 1, h, he, hm => by
    unfold flat at h
    cases hu : P.underlying T with
    | none => rw [hu] at h; cases h
    | some ds =>
      rw [hu] at h
      by_cases hst : ∃ fs, ds = .struct fs
      · obtain ⟨fs, rfl⟩ := hst
        simp only at h
        cases hp : P.stoodInHeld T with
        | true => rw [hp] at h; cases h
        | false =>
          rw [hp] at h
          simp only at h
          have hfo : P.fieldsOf T = fs := by unfold Program.fieldsOf; rw [hu]
          unfold pack
          rw [hu]
          rw [run_equalIn_agg (P := P) w m T _ _ (by rw [hu, hfo]) hp, hfo]
          have key : ∀ (fl : List Field) (off : Nat) (rs : List Kd) (X Y : List Value) (c : Bool), flatFs P (flat P d) off fl = some rs → eqK rs (X.drop off) (Y.drop off) = some c →
              (Op.eqFields m X.toArray Y.toArray fl).run P w = .ok c w := by
            intro fl
            induction fl with
            | nil =>
              intro off rs X Y c h1 h2
              cases h1; cases h2; rfl
            | cons f fl ih =>
              intro off rs X Y c h1 h2
              unfold flatFs at h1
              cases hn : (f.name != "_" && f.offset == off) with
              | false => rw [hn] at h1; simp at h1
              | true =>
                rw [hn] at h1
                simp only [Bool.and_eq_true, bne_iff_ne, beq_iff_eq] at hn
                cases hg : flat P d f.type with
                | none => rw [hg] at h1; simp at h1
                | some k1 =>
                  rw [hg] at h1
                  try simp only at h1
                  cases hsz : ((P.info? f.type).map (·.size) == some k1.length) with
                  | false => rw [hsz] at h1; simp at h1
                  | true =>
                    rw [hsz] at h1
                    try simp only at h1
                    cases hr : flatFs P (flat P d) (off + k1.length) fl with
                    | none => rw [hr] at h1; simp at h1
                    | some r1 =>
                      rw [hr] at h1
                      simp only [Option.some.injEq] at h1
                      subst h1
                      obtain ⟨b1, b2, g1, g2, rfl, g3, g4⟩ := eqK_app k1 h2
                      rw [List.drop_drop] at g2
                      rw [List.drop_drop] at g2
                      have hsz' : (P.info? f.type).map (·.size) = some k1.length := by simpa using hsz
                      obtain ⟨dd, hdd, hkk⟩ : ∃ dd, P.underlying f.type = some dd ∧ ((∃ fs, dd = .struct fs) ∨ (aggB dd = false ∧ k1.length = 1)) := by
                        cases d with
                        | zero => cases hg
                        | succ d =>
                          unfold flat at hg
                          cases hu2 : P.underlying f.type with
                          | none => rw [hu2] at hg; cases hg
                          | some dd =>
                            rw [hu2] at hg
                            refine ⟨dd, rfl, ?_⟩
                            cases dd <;> first | exact .inl ⟨_, rfl⟩ | (right; simp only [kdOf] at hg; first | (cases hg; exact ⟨rfl, rfl⟩) | cases hg)
                      have hlX : off + k1.length ≤ X.length ∨ k1.length = 0 := by rw [List.length_drop] at g3; omega
                      have hlY : off + k1.length ≤ Y.length ∨ k1.length = 0 := by rw [List.length_drop] at g4; omega
                      have hp1 : ∀ Z : List Value, off + k1.length ≤ Z.length ∨ k1.length = 0 → (part f.type Z.toArray f.offset).run P w = .ok (pack P f.type ((Z.drop off).take k1.length)) w := by
                        intro Z hZ
                        rw [hn.2]
                        rcases hZ with hZ | hZ
                        · exact part_run hdd hkk hsz' hZ
                        · rcases hkk with ⟨fs2, rfl⟩ | ⟨_, h1⟩
                          · have hU : Und P f.type (.struct fs2) := ⟨hdd⟩
                            unfold part
                            rw [run_bind_ok agg_run]
                            show Sem.run P (do pure (Value.agg (Z.toArray.extract off (off + (← sizeOf f.type))))) w = _
                            rw [run_bind_ok (siz_run hsz'), hZ]
                            unfold pack; rw [hdd]
                            simp [Sem.run]
                          · omega
                      unfold Op.eqFields
                      rw [if_pos hn.1]
                      rw [run_bind_ok (hp1 X hlX), run_bind_ok (hp1 Y hlY)]
                      have hrec := flat_run d (xs := (X.drop off).take k1.length) (ys := (Y.drop off).take k1.length) (w := w) m hg g1 (by omega)
                      rw [List.take_take, List.take_take, Nat.min_self] at hrec
                      rw [run_bind_ok hrec]
                      cases b1
                      · rfl
                      · simp only [Bool.not_true, Bool.false_eq_true, if_false, Bool.true_and]
                        exact ih _ _ _ _ _ hr g2
          have h0 := key fs.toList 0 ks (xs.take ks.length) (ys.take ks.length) b h (by
            obtain ⟨b1, b2, g1, g2, rfl, _, _⟩ := eqK_app ks (rs := []) (b := b) (by rw [List.append_nil]; exact he)
            cases g2
            simpa using g1)
          exact h0
      · have h' : (kdOf ds).map (fun k => [k]) = some ks := by
          cases ds <;> first | exact h | exact absurd ⟨_, rfl⟩ hst
        cases hk : kdOf ds with
        | none => rw [hk] at h'; cases h'
        | some k =>
          rw [hk] at h'
          cases h'
          match xs, ys, he with
          | x :: xs, y :: ys, he =>
            have e1 : ∀ z (zs : List Value), pack P T ((z :: zs).take [k].length) = z := by
              intro z zs; unfold pack; rw [hu]
              cases ds <;> first | rfl | cases hk
            rw [e1, e1]
            have hel : eqL k x y = some b := by
              simp only [eqK] at he
              cases h1 : eqL k x y with
              | none => rw [h1] at he; cases he
              | some c => rw [h1] at he; simpa using he
            cases ds <;> first | (cases hk; done) | skip
            all_goals cases hk
            · cases x <;> first | (cases hel; done) | skip
              cases y <;> first | (cases hel; done) | skip
              rw [run_equalIn_bool' (P := P) w m T _ _ hu]; cases hel; rfl
            · cases x <;> first | (cases hel; done) | skip
              cases y <;> first | (cases hel; done) | skip
              simp only [eqL] at hel
              split at hel
              · rename_i h1 h2
                have h1 := beq_iff_eq.1 h1
                have h2 := beq_iff_eq.1 h2
                subst h1
                subst h2
                rw [run_equalIn_int (P := P) w m T _ _ _ _ hu]; cases hel; rfl
              · cases hel
            · cases x <;> first | (cases hel; done) | skip
              cases y <;> first | (cases hel; done) | skip
              rw [run_equalIn_string (P := P) w m T _ _ hu]; cases hel; rfl
class EqT (P : Program) (T : TypeId) (ks : outParam (List Kd)) : Prop where
  out : flat P 100 T = some ks ∧ (∃ fs, P.underlying T = some (.struct fs)) ∧ P.eqGuardType P.depth T = false
theorem EqT.of {P : Program} {T : TypeId} {ks : List Kd} {fs : Array Field} (h1 : P.underlying T = some (.struct fs)) (h2 : flat P 100 T = some ks) (h3 : P.eqGuardType P.depth T = false) : EqT P T ks := ⟨h2, ⟨fs, h1⟩, h3⟩
theorem eqA_run {P : Program} {T : TypeId} {ks : List Kd} [h : EqT P T ks] {xs ys : List Value} {b : Bool} {w : World} {x y : Operand} (hx : xs.length = ks.length) (hy : ys.length = ks.length) (he : eqK ks xs ys = some b) :
    (do eqGuard .eql T x y (.agg xs.toArray) (.agg ys.toArray); binOp .eql T (.agg xs.toArray) (.agg ys.toArray) : Sem Value).run P w = .ok (.bool b) w ∧
    (do eqGuard .neq T x y (.agg xs.toArray) (.agg ys.toArray); binOp .neq T (.agg xs.toArray) (.agg ys.toArray) : Sem Value).run P w = .ok (.bool (!b)) w := by
  obtain ⟨h1, ⟨fs, h2⟩, h3⟩ := h.out
  have h4 := flat_run 100 (w := w) 10000 h1 he (by omega)
  rw [List.take_of_length_le (by omega), List.take_of_length_le (by omega)] at h4
  unfold pack at h4
  rw [h2] at h4
  simp only at h4
  constructor
  · rw [run_bind_ok (run_eqGuard_agg w _ T x y _ _ h3), run_eql_struct, h4]; rfl
  · rw [run_bind_ok (run_eqGuard_agg w _ T x y _ _ h3), run_neq_struct, h4]; rfl
section
variable {P : Program} {ops : Array Oper} {Q : Exit → Act → World → Prop} {s : St} {E : Env} {M : Hp} {rest : List Oper} {d t : Nat} {pos : String} {af : Array Edge}
theorem L.eqA {T T' : TypeId} {ks : List Kd} [EqT P T ks] {x y : Operand} {xs ys : List Value} {b : Bool} (hn : Nat.blt d s.n = true := by exact rfl) (hx : ev E x = some (.agg xs.toArray) := by exact rfl) (hy : ev E y = some (.agg ys.toArray) := by exact rfl) (hlx : xs.length = ks.length := by exact rfl) (hly : ys.length = ks.length := by exact rfl) (he : eqK ks xs ys = some b := by first | with_reducible assumption | rfl)
    (c : L P ops Q rest s ((d, .bool b) :: E) M) : L P ops Q (⟨some d, .binOp .eql T x y T', t, pos, af, none⟩ :: rest) s E M :=
  L.val hn (fun a w hs => ⟨w, by
    refine run_value ?_
    rw [hs.ev hx, hs.ev hy]
    exact (eqA_run hlx hly he).1, hs.at_⟩) c
theorem L.neA {T T' : TypeId} {ks : List Kd} [EqT P T ks] {x y : Operand} {xs ys : List Value} {b : Bool} (hn : Nat.blt d s.n = true := by exact rfl) (hx : ev E x = some (.agg xs.toArray) := by exact rfl) (hy : ev E y = some (.agg ys.toArray) := by exact rfl) (hlx : xs.length = ks.length := by exact rfl) (hly : ys.length = ks.length := by exact rfl) (he : eqK ks xs ys = some b := by first | with_reducible assumption | rfl)
    (c : L P ops Q rest s ((d, .bool (!b)) :: E) M) : L P ops Q (⟨some d, .binOp .neq T x y T', t, pos, af, none⟩ :: rest) s E M :=
  L.val hn (fun a w hs => ⟨w, by
    refine run_value ?_
    rw [hs.ev hx, hs.ev hy]
    exact (eqA_run hlx hly he).2, hs.at_⟩) c
theorem L.eqB {T T' : TypeId} [Und P T .bool] {x y : Operand} {a b z : Bool} (hn : Nat.blt d s.n = true := by exact rfl) (hx : ev E x = some (.bool a) := by exact rfl) (hy : ev E y = some (.bool b) := by exact rfl) (hz : (a == b) = z := by first | with_reducible assumption | rfl)
    (c : L P ops Q rest s ((d, .bool z) :: E) M) : L P ops Q (⟨some d, .binOp .eql T x y T', t, pos, af, none⟩ :: rest) s E M :=
  L.val hn (fun e w hs => ⟨w, by
    refine run_value ?_
    rw [hs.ev hx, hs.ev hy, ← hz]
    show Sem.run P (do pure (Value.bool (← Op.equalIn (9999 + 1) T (.bool a) (.bool b)))) w = _
    unfold Op.equalIn
    refine run_bind_ok (x := (a == b)) (w' := w) ?_
    rw [run_bind_ok und_run]
    rfl, hs.at_⟩) c
theorem L.neB {T T' : TypeId} [Und P T .bool] {x y : Operand} {a b z : Bool} (hn : Nat.blt d s.n = true := by exact rfl) (hx : ev E x = some (.bool a) := by exact rfl) (hy : ev E y = some (.bool b) := by exact rfl) (hz : (a != b) = z := by first | with_reducible assumption | rfl)
    (c : L P ops Q rest s ((d, .bool z) :: E) M) : L P ops Q (⟨some d, .binOp .neq T x y T', t, pos, af, none⟩ :: rest) s E M :=
  L.val hn (fun e w hs => ⟨w, by
    refine run_value ?_
    rw [hs.ev hx, hs.ev hy, ← hz]
    show Sem.run P (do pure (Value.bool (!(← Op.equalIn (9999 + 1) T (.bool a) (.bool b))))) w = _
    unfold Op.equalIn
    refine run_bind_ok (x := (a == b)) (w' := w) ?_
    rw [run_bind_ok und_run]
    rfl, hs.at_⟩) c
/-- Texts are put together. -/
theorem L.strAdd {T T' : TypeId} {x y : Operand} {a b : ByteArray} (h : a.size + b.size ≤ 1000000000) (hn : Nat.blt d s.n = true := by exact rfl) (hx : ev E x = some (.string a) := by exact rfl) (hy : ev E y = some (.string b) := by exact rfl)
    (c : L P ops Q rest s ((d, .string (a ++ b)) :: E) M) : L P ops Q (⟨some d, .binOp .add T x y T', t, pos, af, none⟩ :: rest) s E M :=
  L.val hn (fun e w hs => ⟨w, by
    refine run_value ?_
    rw [hs.ev hx, hs.ev hy]
    show Sem.run P (Op.stringOp .add a b) w = _
    unfold Op.stringOp
    simp only
    rw [if_neg (by simp only [IntKind.max, IntKind.bits, IntKind.signed]; simp; omega)]
    rfl, hs.at_⟩) c
/-- A guarded operation whose guard was not reckoned itself. -/
theorem L.passU {op : Op} {j e : Nat} {b : Bool} {v : Value} (hn : Nat.blt d s.n = true := by exact rfl) (hj : (ops[j]?).bind (·.dst) = some e := by exact rfl) (hv : lk E e = some v := by exact rfl) (hne : (match v with | .bool _ => false | _ => true) = true := by exact rfl)
    (k : L P ops Q rest s ((d, undef) :: E) M) : L P ops Q (⟨some d, op, t, pos, af, some (j, b)⟩ :: rest) s E M := by
  intro a w hs
  have hw : Region.wanted ⟨some d, op, t, pos, af, some (j, b)⟩ (yielded ops a.tmps) = false := by
    unfold Region.wanted yielded
    simp only [hj, Option.bind_some, hs.env _ _ hv]
    cases v <;> first | rfl | cases hne
  unfold wpListIn
  rw [if_neg (by rw [hw]; decide)]
  exact ⟨fun _ _ => trivial, k _ _ (hs.put hn undef hs.at_)⟩
/-- A function against nil. -/
theorem L.funNil {T T' : TypeId} {ps rs : Array TypeId} {va : Bool} [hu : Und P T (.func ps rs va)] {x : Operand} {f : Fn} {fi ca : Array Value} (hn : Nat.blt d s.n = true := by exact rfl) (hx : ev E x = some (.func f fi ca) := by exact rfl)
    (c : L P ops Q rest s ((d, .bool false) :: E) M) : L P ops Q (⟨some d, .binOp .eql T x (.const .nilFunc) T', t, pos, af, none⟩ :: rest) s E M :=
  L.val hn (fun a w hs => ⟨w, by
    refine run_value ?_
    rw [hs.ev hx]
    show Sem.run P (do eqGuard .eql T x (.const .nilFunc) (.func f fi ca) .nilFunc; binOp .eql T (.func f fi ca) .nilFunc) w = _
    rw [run_bind_ok (x := ()) (w' := w) rfl]
    show Sem.run P (do pure (Value.bool (← Op.equalIn (9999 + 1) T (.func f fi ca) .nilFunc))) w = _
    unfold Op.equalIn
    refine run_bind_ok (x := false) (w' := w) ?_
    rw [run_bind_ok und_run]
    rfl, hs.at_⟩) c

/-! ### Memory that is only read -/
/-- Cells of old memory that none of one's own blocks is. -/
def Old (w : World) (A : List Nat) (b off : Nat) (l : List Value) : Prop := b < w.heap.size ∧ b ∉ A ∧ ∀ i v, l[i]? = some v → w.cell? ⟨b, off + i, none⟩ = some v
theorem Old.cell {w0 w : World} {A : List Nat} {b off i : Nat} {l : List Value} {v : Value} (h : Old w0 A b off l) (hw : At w0 A M w) (hi : l[i]? = some v) : w.cell? ⟨b, off + i, none⟩ = some v := by
  have := h.2.2 i v hi
  unfold World.cell? at this ⊢
  rw [hw.keeps.block b h.1 h.2.1]; exact this
theorem load_cell {w : World} {a : Addr} {v : Value} (h : w.cell? a = some v) : (load a).run P w = .ok v w := by
  unfold load Sem.run; rw [h]; rfl
theorem loadCells_cells {w : World} {b o : Nat} {l : List Value} : ∀ (n i : Nat) (acc : Array Value), i + n ≤ l.length → (∀ j v, l[j]? = some v → w.cell? ⟨b, o + j, none⟩ = some v) → (loadCellsFrom ⟨b, o, none⟩ i n acc).run P w = .ok (acc ++ ((l.drop i).take n).toArray) w
  | 0, i, acc, _, _ => by simp [loadCellsFrom]
  | n + 1, i, acc, hn, h => by
    have hlt : i < l.length := by omega
    unfold loadCellsFrom
    rw [add_at, run_bind_ok (load_cell (h i _ (List.getElem?_eq_getElem hlt))), loadCells_cells n (i + 1) _ (by omega) h]
    have : (l.drop i).take (n + 1) = l[i] :: (l.drop (i + 1)).take n := by rw [List.drop_eq_getElem_cons hlt]; rfl
    rw [this]; simp
theorem L.loadO {x : Operand} {T b o off i n : Nat} {l : List Value} [hT : Sgl P T] {v : Value} (h : Old s.w0 s.A b off l) (hn : Nat.blt d s.n = true := by exact rfl) (hx : ev E x = some (.pointer (some ⟨b, o, none⟩)) := by exact rfl) (ho : o = off + i := by exact rfl) (hv : l[i]? = some v := by exact rfl)
    (c : L P ops Q rest s ((d, v) :: E) M) : L P ops Q (⟨some d, .load T x, t, pos, af, none⟩ :: rest) s E M := by
  obtain ⟨ds, hu, hg⟩ := hT.out
  have hu : Und P T ds := ⟨hu⟩
  refine L.val hn (fun a w hs => ⟨w, ?_, hs.at_⟩) c
  refine run_value (s := Instr.loadAt T (a.eval x)) ?_
  rw [hs.ev hx]
  unfold Instr.loadAt Instr.sureAddr loadVar
  show Sem.run P (do if ← isAgg T then pure (.agg (← loadCells ⟨b, o, none⟩ (← sizeOf T))) else load ⟨b, o, none⟩) w = _
  rw [run_bind_ok agg_run, hg, ho]
  exact load_cell (h.cell hs.at_ hv)
theorem L.loadOA {x : Operand} {T b o off n : Nat} {l : List Value} [hT : Agl P T] [hz : Siz P T n] (h : Old s.w0 s.A b off l) (hn : Nat.blt d s.n = true := by exact rfl) (hx : ev E x = some (.pointer (some ⟨b, o, none⟩)) := by exact rfl) (i : Nat) {cs : List Value} (ho : o = off + i := by exact rfl) (hi : i + n ≤ l.length) (hcs : (l.drop i).take n = cs)
    (c : L P ops Q rest s ((d, .agg cs.toArray) :: E) M) : L P ops Q (⟨some d, .load T x, t, pos, af, none⟩ :: rest) s E M := by
  obtain ⟨ds, hu, hg⟩ := hT.out
  have hu : Und P T ds := ⟨hu⟩
  refine L.val hn (fun a w hs => ⟨w, ?_, hs.at_⟩) c
  refine run_value (s := Instr.loadAt T (a.eval x)) ?_
  rw [hs.ev hx]
  unfold Instr.loadAt Instr.sureAddr loadVar
  show Sem.run P (do if ← isAgg T then pure (.agg (← loadCells ⟨b, o, none⟩ (← sizeOf T))) else load ⟨b, o, none⟩) w = _
  rw [run_bind_ok agg_run, hg]
  show Sem.run P (do pure (Value.agg (← loadCells ⟨b, o, none⟩ (← sizeOf T)))) w = _
  rw [run_bind_ok (siz_run hz.out)]
  show Sem.run P (do pure (Value.agg (← loadCellsFrom ⟨b, o, none⟩ 0 n #[]))) w = _
  have := loadCells_cells (P := P) (w := w) (b := b) (o := o) (l := l.drop i) n 0 #[] (by rw [List.length_drop]; omega) (fun j v hj => by
    rw [List.getElem?_drop] at hj
    rw [ho, Nat.add_assoc]
    exact h.cell hs.at_ hj)
  rw [run_bind_ok this, ← hcs]; simp
/-- Elements of own slices: what the slice holds is known of its cells. -/
theorem L.loadS (k : Nat) {x : Operand} {T T' b o n : Nat} {l : List Value} [hT : Agl P T] [hz : Siz P T n] (hn : Nat.blt d s.n = true := by exact rfl) (hx : ev E x = some (.pointer (some ⟨b, o, none⟩)) := by exact rfl) (hi : hat M k = some (b, ob l T') := by exact rfl) {cs : List Value} (hl : (l.drop o).take n = cs := by exact rfl) (hcs : cs.length = n)
    (c : L P ops Q rest s ((d, .agg cs.toArray) :: E) M) : L P ops Q (⟨some d, .load T x, t, pos, af, none⟩ :: rest) s E M := by
  obtain ⟨ds, hu, hg⟩ := hT.out
  have hu : Und P T ds := ⟨hu⟩
  have hle : o + n ≤ l.length ∨ n = 0 := by
    have := congrArg List.length hl
    rw [List.length_take, List.length_drop] at this; omega
  rcases hle with hle | rfl
  · exact L.loadA k hn hx hi hg (by rw [Nat.ble_eq]; exact hle) hl c
  · obtain rfl : cs = [] := List.eq_nil_of_length_eq_zero hcs
    refine L.val hn (fun a w hs => ⟨w, ?_, hs.at_⟩) c
    refine run_value (s := Instr.loadAt T (a.eval x)) ?_
    rw [hs.ev hx]
    unfold Instr.loadAt Instr.sureAddr loadVar
    show Sem.run P (do if ← isAgg T then pure (.agg (← loadCells ⟨b, o, none⟩ (← sizeOf T))) else load ⟨b, o, none⟩) w = _
    rw [run_bind_ok agg_run, hg]
    show Sem.run P (do pure (Value.agg (← loadCells ⟨b, o, none⟩ (← sizeOf T)))) w = _
    rw [run_bind_ok (siz_run hz.out)]
    rfl
theorem L.indexP {T e b o len cap n k : Nat} {x y : Operand} {q : IntKind} {i : Int} [hT : Und P T (.slice e)] [hS : Siz P e n] (hn : Nat.blt d s.n = true := by exact rfl) (hx : ev E x = some (.slice (some ⟨b, o, none⟩) len cap) := by exact rfl) (hy : ev E y = some (.int q i) := by exact rfl) (hi : i = (k : Int) := by exact rfl) (hk : k < len)
    (c : L P ops Q rest s ((d, .pointer (some ⟨b, o + k * n, none⟩)) :: E) M) : L P ops Q (⟨some d, .indexAddr T x y, t, pos, af, none⟩ :: rest) s E M :=
  L.val hn (fun a w hs => ⟨w, by
    refine run_value (s := Instr.indexAt T (a.eval x) (a.eval y)) ?_
    rw [hs.ev hx, hs.ev hy, hi]
    unfold Instr.indexAt
    simp [Sem.run_bind, run_underlying hT.out, asIntOf, Result.andThen, hk, siz_run hS.out, add_at], hs.at_⟩) c
end
end Go.Proofs.Ytbackpcohkblfaa.SL
