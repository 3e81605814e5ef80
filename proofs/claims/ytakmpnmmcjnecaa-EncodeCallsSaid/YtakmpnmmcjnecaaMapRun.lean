/- A map that lies in the block made last: rows of operations that fill it, and a look-up in it, run by the kernel at once. No program in sight. -/
import Derived.WalkKit
import Derived.KernelRfl
namespace Go.Proofs.Ytakmpnmmcjnecaa.MapRun
open Go

/-- What a tree answers that asks the program, and one map, alone; which blocks it asked for. -/
def mrun {α : Type} (P : Program) : Sem α → Array MapEntry → Nat → List Nat → Option (α × Array MapEntry × Nat × List Nat)
  | .pure a, es, c, l => some (a, es, c, l)
  | .program k, es, c, l => mrun P (k P) es c l
  | .mark _ k, es, c, l => mrun P k es c l
  | .getObj r k, es, c, l => mrun P (k (.map es c)) es c (r :: l)
  | .setObj r (.map es' c') k, _, _, l => mrun P k es' c' (r :: l)
  | _, _, _, _ => none
theorem mrun_asks {α : Type} {P : Program} : ∀ (s : Sem α) {es : Array MapEntry} {c : Nat} {l : List Nat} {x : α × Array MapEntry × Nat × List Nat}, mrun P s es c l = some x → ∀ y ∈ l, y ∈ x.2.2.2
  | .pure a, es, c, l, x, h, y, hy => by simp only [mrun, Option.some.injEq] at h; subst h; exact hy
  | .program k, es, c, l, x, h, y, hy => mrun_asks (k P) h y hy
  | .mark _ k, es, c, l, x, h, y, hy => mrun_asks k h y hy
  | .getObj r k, es, c, l, x, h, y, hy => mrun_asks (k (.map es c)) h y (List.mem_cons_of_mem _ hy)
  | .setObj r (.map es' c') k, es, c, l, x, h, y, hy => mrun_asks k (es := es') (c := c') (l := r :: l) (by simpa [mrun] using h) y (List.mem_cons_of_mem _ hy)
  | .setObj _ (.cells ..) _, _, _, _, _, h, _, _ => by simp [mrun] at h
  | .setObj _ (.pending ..) _, _, _, _, _, h, _, _ => by simp [mrun] at h
  | .setObj _ (.view ..) _, _, _, _, _, h, _, _ => by simp [mrun] at h
  | .setObj _ (.number ..) _, _, _, _, _, h, _, _ => by simp [mrun] at h
  | .setObj _ (.chan ..) _, _, _, _, _, h, _, _ => by simp [mrun] at h
  | .setObj _ (.stringIter ..) _, _, _, _, _, h, _, _ => by simp [mrun] at h
  | .setObj _ (.mapIter ..) _, _, _, _, _, h, _, _ => by simp [mrun] at h
  | .setObj _ (.loop ..) _, _, _, _, _, h, _, _ => by simp [mrun] at h
  | .setObj _ (.deferred ..) _, _, _, _, _, h, _, _ => by simp [mrun] at h
  | .setObj _ (.coro ..) _, _, _, _, _, h, _, _ => by simp [mrun] at h
  | .setObj _ (.finalizers ..) _, _, _, _, _, h, _, _ => by simp [mrun] at h
  | .load .., _, _, _, _, h, _, _ => by simp [mrun] at h
  | .store .., _, _, _, _, h, _, _ => by simp [mrun] at h
  | .new .., _, _, _, _, h, _, _ => by simp [mrun] at h
  | .shape .., _, _, _, _, h, _, _ => by simp [mrun] at h
  | .freeze .., _, _, _, _, h, _, _ => by simp [mrun] at h
  | .frozen .., _, _, _, _, h, _, _ => by simp [mrun] at h
  | .choose .., _, _, _, _, h, _, _ => by simp [mrun] at h
  | .sys .., _, _, _, _, h, _, _ => by simp [mrun] at h
  | .halt _, _, _, _, _, h, _, _ => by simp [mrun] at h
theorem heap_last (w : World) (o : Obj) : (w.alloc o).heap[w.heap.size]? = some o := by show (w.heap.push o)[w.heap.size]? = _; simp
theorem set_last (w : World) (o o' : Obj) : { w.alloc o with heap := (w.alloc o).heap.setIfInBounds w.heap.size o' } = w.alloc o' := by
  show ({ w with heap := (w.heap.push o).setIfInBounds w.heap.size o' } : World) = { w with heap := w.heap.push o' }
  congr 1
  apply Array.ext_getElem?
  intro i
  rw [Array.getElem?_setIfInBounds]
  by_cases h : w.heap.size = i
  · subst h; simp
  · have h' : ¬ i = w.heap.size := fun e => h e.symm
    simp [h, h', Array.getElem?_push]
theorem run_mrun {α : Type} {P : Program} (w : World) : ∀ (s : Sem α) {es : Array MapEntry} {c : Nat} {l : List Nat} {x : α × Array MapEntry × Nat × List Nat}, mrun P s es c l = some x →
    (∀ y ∈ x.2.2.2, y = w.heap.size) → s.run P (w.alloc (.map es c)) = .ok x.1 (w.alloc (.map x.2.1 x.2.2.1))
  | .pure a, es, c, l, x, h, _ => by simp only [mrun, Option.some.injEq] at h; subst h; rfl
  | .program k, es, c, l, x, h, hy => run_mrun w (k P) h hy
  | .mark _ k, es, c, l, x, h, hy => run_mrun w k h hy
  | .getObj r k, es, c, l, x, h, hy => by
    have h' : mrun P (k (.map es c)) es c (r :: l) = some x := h
    have hr : r = w.heap.size := hy r (mrun_asks _ h' r List.mem_cons_self)
    subst hr
    have := run_mrun w (k (.map es c)) h' hy
    rw [Sem.run, heap_last]; exact this
  | .setObj r (.map es' c') k, es, c, l, x, h, hy => by
    have h' : mrun P k es' c' (r :: l) = some x := by simpa [mrun] using h
    have hr : r = w.heap.size := hy r (mrun_asks _ h' r List.mem_cons_self)
    subst hr
    have := run_mrun w k h' hy
    rw [Sem.run, heap_last]
    show Sem.run P k { w.alloc (.map es c) with heap := (w.alloc (.map es c)).heap.setIfInBounds w.heap.size (.map es' c') } = _
    rw [set_last]; exact this
  | .setObj _ (.cells ..) _, _, _, _, _, h, _ => by simp [mrun] at h
  | .setObj _ (.pending ..) _, _, _, _, _, h, _ => by simp [mrun] at h
  | .setObj _ (.view ..) _, _, _, _, _, h, _ => by simp [mrun] at h
  | .setObj _ (.number ..) _, _, _, _, _, h, _ => by simp [mrun] at h
  | .setObj _ (.chan ..) _, _, _, _, _, h, _ => by simp [mrun] at h
  | .setObj _ (.stringIter ..) _, _, _, _, _, h, _ => by simp [mrun] at h
  | .setObj _ (.mapIter ..) _, _, _, _, _, h, _ => by simp [mrun] at h
  | .setObj _ (.loop ..) _, _, _, _, _, h, _ => by simp [mrun] at h
  | .setObj _ (.deferred ..) _, _, _, _, _, h, _ => by simp [mrun] at h
  | .setObj _ (.coro ..) _, _, _, _, _, h, _ => by simp [mrun] at h
  | .setObj _ (.finalizers ..) _, _, _, _, _, h, _ => by simp [mrun] at h
  | .load .., _, _, _, _, h, _ => by simp [mrun] at h
  | .store .., _, _, _, _, h, _ => by simp [mrun] at h
  | .new .., _, _, _, _, h, _ => by simp [mrun] at h
  | .shape .., _, _, _, _, h, _ => by simp [mrun] at h
  | .freeze .., _, _, _, _, h, _ => by simp [mrun] at h
  | .frozen .., _, _, _, _, h, _ => by simp [mrun] at h
  | .choose .., _, _, _, _, h, _ => by simp [mrun] at h
  | .sys .., _, _, _, _, h, _ => by simp [mrun] at h
  | .halt _, _, _, _, _, h, _ => by simp [mrun] at h

/-- A row of operations without guards that fill the map. -/
def mops (P : Program) : List Oper → Act → Array MapEntry → Nat → List Nat → Option (Act × Array MapEntry × Nat × List Nat)
  | [], a, es, c, l => some (a, es, c, l)
  | o :: rest, a, es, c, l =>
    match o.guard with
    | some _ => none
    | none =>
      match mrun P (execOp a.eval o) es c l with
      | some (.value v, es', c', l') => mops P rest (a.put o.dst v) es' c' l'
      | some (.skip, es', c', l') => mops P rest (a.put o.dst undef) es' c' l'
      | _ => none
theorem mops_asks {P : Program} : ∀ (ops : List Oper) {a : Act} {es : Array MapEntry} {c : Nat} {l : List Nat} {x : Act × Array MapEntry × Nat × List Nat}, mops P ops a es c l = some x → ∀ y ∈ l, y ∈ x.2.2.2
  | [], a, es, c, l, x, h, y, hy => by simp only [mops, Option.some.injEq] at h; subst h; exact hy
  | o :: rest, a, es, c, l, x, h, y, hy => by
    unfold mops at h
    split at h
    · exact absurd h (by simp)
    · split at h
      · rename_i he
        exact mops_asks rest h y (mrun_asks _ he y hy)
      · rename_i he
        exact mops_asks rest h y (mrun_asks _ he y hy)
      · exact absurd h (by simp)
theorem wpList_mops {P : Program} {ops : Array Oper} {Q : Exit → Act → World → Prop} {rest : List Oper} {w : World} : ∀ (l : List Oper) {a : Act} {es : Array MapEntry} {c : Nat} {as : List Nat} {x : Act × Array MapEntry × Nat × List Nat},
    mops P l a es c as = some x → (∀ y ∈ x.2.2.2, y = w.heap.size) → wpList P ops Q rest x.1 (w.alloc (.map x.2.1 x.2.2.1)) → wpList P ops Q (l ++ rest) a (w.alloc (.map es c))
  | [], a, es, c, as, x, h, _, hk => by simp only [mops, Option.some.injEq] at h; subst h; exact hk
  | o :: l, a, es, c, as, x, h, hy, hk => by
    unfold mops at h
    split at h
    · exact absurd h (by simp)
    · rename_i hg
      split at h
      · rename_i v es' c' l' he
        have hr := run_mrun w _ he (fun y hy' => hy y (mops_asks l h y hy'))
        refine wpList_plain hg (fun K hK => ?_)
        unfold Oper.wp
        rw [hr]
        exact hK _ _ (wpList_mops l h hy hk)
      · rename_i es' c' l' he
        have hr := run_mrun w _ he (fun y hy' => hy y (mops_asks l h y hy'))
        refine wpList_plain hg (fun K hK => ?_)
        unfold Oper.wp
        rw [hr]
        exact hK _ _ (wpList_mops l h hy hk)
      · exact absurd h (by simp)
/-- The same, the whole row, what it leaves told by closed facts. -/
theorem wpList_mops_all {P : Program} {ops : Array Oper} {Q : Exit → Act → World → Prop} {w : World} {l : List Oper} {a : Act} {es : Array MapEntry} {c : Nat} (n : Nat) (x : Operand) (v : Value) (es' : Array MapEntry) (c' : Nat)
    (h1 : (mops P l a es c []).map (fun y => y.2.2.2) = some (List.replicate n w.heap.size)) (h2 : (mops P l a es c []).map (fun y => y.2.1) = some es') (h3 : (mops P l a es c []).map (fun y => y.2.2.1) = some c')
    (h4 : (mops P l a es c []).map (fun y => y.1.eval x) = some v) (h5 : (mops P l a es c []).map (fun y => y.1.defers) = some [])
    (hk : ∀ a' : Act, a'.eval x = v → a'.defers = [] → Q .normal a' (w.alloc (.map es' c'))) : wpList P ops Q l a (w.alloc (.map es c)) := by
  cases e : mops P l a es c [] with
  | none => rw [e] at h1; simp at h1
  | some y =>
    rw [e] at h1 h2 h3 h4 h5
    simp only [Option.map_some, Option.some.injEq] at h1 h2 h3 h4 h5
    have := wpList_mops (P := P) (ops := ops) (Q := Q) (rest := []) (w := w) l e (fun z hz => by rw [h1] at hz; exact List.eq_of_mem_replicate hz) (by rw [h2, h3]; exact hk _ h4 h5)
    rwa [List.append_nil] at this
end Go.Proofs.Ytakmpnmmcjnecaa.MapRun
