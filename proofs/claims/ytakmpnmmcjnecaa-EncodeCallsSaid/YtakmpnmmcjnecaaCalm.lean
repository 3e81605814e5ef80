/- Operations that touch no memory, run by the kernel at once: a law for a whole row of them. No program in sight. -/
import Derived.WalkKit
import Derived.KernelRfl
import Derived.Deep.WholeRow
namespace Go.Proofs.Ytakmpnmmcjnecaa.Calm
open Go

/-- What a tree answers that asks the program alone. -/
def calm {α : Type} (P : Program) : Sem α → Option α
  | .pure a => some a
  | .program k => calm P (k P)
  | .mark _ k => calm P k
  | _ => none
theorem run_calm {α : Type} {P : Program} : ∀ (s : Sem α) {x : α}, calm P s = some x → ∀ w, s.run P w = .ok x w
  | .pure a, x, h, w => by simp only [calm, Option.some.injEq] at h; subst h; rfl
  | .program k, x, h, w => run_calm (k P) h w
  | .mark _ k, x, h, w => run_calm k h w
  | .load .., _, h, _ => by simp [calm] at h
  | .store .., _, h, _ => by simp [calm] at h
  | .new .., _, h, _ => by simp [calm] at h
  | .shape .., _, h, _ => by simp [calm] at h
  | .freeze .., _, h, _ => by simp [calm] at h
  | .frozen .., _, h, _ => by simp [calm] at h
  | .getObj .., _, h, _ => by simp [calm] at h
  | .setObj .., _, h, _ => by simp [calm] at h
  | .choose .., _, h, _ => by simp [calm] at h
  | .sys .., _, h, _ => by simp [calm] at h
  | .halt _, _, h, _ => by simp [calm] at h

/-- A row of operations without guards, each of which answers a value. -/
def calmRun (P : Program) : List Oper → Act → Option Act
  | [], a => some a
  | o :: rest, a =>
    match o.guard with
    | some _ => none
    | none =>
      match calm P (execOp a.eval o) with
      | some (.value v) => calmRun P rest (a.put o.dst v)
      | _ => none
theorem wpList_calm {P : Program} {ops : Array Oper} {Q : Exit → Act → World → Prop} {rest : List Oper} : ∀ (l : List Oper) {a a' : Act} {w : World},
    calmRun P l a = some a' → wpList P ops Q rest a' w → wpList P ops Q (l ++ rest) a w
  | [], a, a', w, h, hk => by simp only [calmRun, Option.some.injEq] at h; subst h; exact hk
  | o :: l, a, a', w, h, hk => by
    unfold calmRun at h
    split at h
    · exact absurd h (by simp)
    · rename_i hg
      split at h
      · rename_i v hv
        have hr := run_calm _ hv w
        refine wpList_plain hg (fun K hK => ?_)
        unfold Oper.wp
        rw [hr]
        exact hK _ _ (wpList_calm l h hk)
      · exact absurd h (by simp)
theorem wpList_calm_n {P : Program} {ops : Array Oper} {Q : Exit → Act → World → Prop} {l : List Oper} {a : Act} {w : World} (n : Nat)
    (h : (calmRun P (l.take n) a).isSome = true) (hk : wpList P ops Q (l.drop n) ((calmRun P (l.take n) a).get h) w) : wpList P ops Q l a w := by
  have e : calmRun P (l.take n) a = some ((calmRun P (l.take n) a).get h) := by simp
  have := wpList_calm (l.take n) e hk
  rwa [List.take_append_drop] at this
theorem wpList_calm_store {P : Program} {ops : Array Oper} {Q : Exit → Act → World → Prop} {l : List Oper} {a : Act} {w : World} (n : Nat) {o : Oper} (hl : l.drop n = [o])
    {ty : TypeId} {x y : Operand} (ho : o.op = .store ty x y) (hgd : o.guard = none) (hdst : o.dst = none) {c c' : Array Value}
    (h1 : (calmRun P (l.take n) a).map (·.eval x) = some (.pointer (some ⟨w.heap.size, 0, none⟩))) (h2 : (calmRun P (l.take n) a).map (·.eval y) = some (.agg c'))
    (h3 : (calmRun P (l.take n) a).map (·.defers) = some []) (hi : (P.info? ty).map (·.size) = some c'.size) (hs : c.size = c'.size) (h1c : c'.all (·.oneCell') = true)
    (hk : ∀ a' : Act, a'.eval x = .pointer (some ⟨w.heap.size, 0, none⟩) → a'.defers = [] → Q .normal a' (w.alloc (.cells c' ty))) : wpList P ops Q l a (w.alloc (.cells c ty)) := by
  cases e : calmRun P (l.take n) a with
  | none => rw [e] at h1; simp at h1
  | some a' =>
    rw [e] at h1 h2 h3
    simp only [Option.map_some, Option.some.injEq] at h1 h2 h3
    rw [← List.take_append_drop n l, hl]
    refine wpList_calm (l.take n) e ?_
    refine wpList_plain hgd (fun K hK => ?_)
    have hr : (execOp a'.eval o).run P (w.alloc (.cells c ty)) = .ok .skip (w.alloc (.cells c' ty)) := by
      unfold execOp
      rw [ho]
      simp only [h1, h2, Sem.run_bind, run_storeAt_new w ty c c' hi hs h1c, Result.andThen, Sem.run_pure]
    unfold Oper.wp
    rw [hr]
    refine hK _ _ ?_
    rw [hdst]
    exact hk _ h1 h3
/-- A whole row stored into the block that was made last. -/
theorem wpList_store_new {P : Program} {ops : Array Oper} {Q : Exit → Act → World → Prop} {rest : List Oper} {a : Act} {w : World} {o : Oper}
    {ty : TypeId} {x y : Operand} (ho : o.op = .store ty x y) (hgd : o.guard = none) (hdst : o.dst = none) {c c' : Array Value}
    {n : Nat} (h1 : a.eval x = .pointer (some ⟨n, 0, none⟩)) (hn : n = w.heap.size) (h2 : a.eval y = .agg c') (hi : (P.info? ty).map (·.size) = some c'.size) (hs : c.size = c'.size) (h1c : c'.all (·.oneCell') = true)
    (hk : wpList P ops Q rest a (w.alloc (.cells c' ty))) : wpList P ops Q (o :: rest) a (w.alloc (.cells c ty)) := by
  subst hn
  refine wpList_plain hgd (fun K hK => ?_)
  have hr : (execOp a.eval o).run P (w.alloc (.cells c ty)) = .ok .skip (w.alloc (.cells c' ty)) := by
    unfold execOp
    rw [ho]
    simp only [h1, h2, Sem.run_bind, run_storeAt_new w ty c c' hi hs h1c, Result.andThen, Sem.run_pure]
  unfold Oper.wp
  rw [hr]
  refine hK _ _ ?_
  rw [hdst]
  exact hk
end Go.Proofs.Ytakmpnmmcjnecaa.Calm
