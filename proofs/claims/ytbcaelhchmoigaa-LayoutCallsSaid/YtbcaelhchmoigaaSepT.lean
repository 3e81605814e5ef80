import Derived.Test.YtbcaelhchmoigaaSepW
import Derived.Laws.StandIn
import Derived.Lib.Bytealg
set_option linter.unusedVariables false
namespace Go.Proofs.Ytbcaelhchmoigaa.SL
open Go Go.RowKit
section
variable {P : Program} {ops : Array Oper} {Q : Exit → Act → World → Prop} {s : St} {E : Env} {M : Hp} {rest : List Oper} {d t : Nat} {pos : String} {af : Array Edge}
theorem At.tail {w0 w w' : World} {A0 : List Nat} {T A B : Hp} (h : At w0 A0 (T ++ A) w) (h' : At w (keys A) B w') : At w0 A0 (T ++ B) w' := by
  have hnd : (keys T ++ keys A).Nodup := by have := h.nodup; unfold keys at this ⊢; simpa using this
  have hmT : ∀ x ∈ T, x ∈ T ++ A := fun x hx => List.mem_append_left _ hx
  have hmA : ∀ b ∈ keys A, b ∈ A0 ∨ w0.heap.size ≤ b := fun b hb => by
    obtain ⟨x, hx, rfl⟩ := List.mem_map.1 hb
    exact h.mine x (List.mem_append_right _ hx)
  have hTA : ∀ x ∈ T, x.1 ∉ keys A := fun x hx hk => (List.nodup_append.1 hnd).2.2 _ (List.mem_map_of_mem hx) _ hk rfl
  refine ⟨h.keeps.trans h'.keeps hmA, ?_, ?_, ?_⟩
  · show (List.map _ (T ++ B)).Nodup
    rw [List.map_append, List.nodup_append]
    refine ⟨(List.nodup_append.1 hnd).1, h'.nodup, fun a ha b hb e => ?_⟩
    subst e
    obtain ⟨x, hx, rfl⟩ := List.mem_map.1 ha
    obtain ⟨y, hy, e⟩ := List.mem_map.1 hb
    rcases h'.mine y hy with h1 | h1
    · rw [e] at h1; exact hTA x hx h1
    · have := h.lt x (hmT x hx); rw [e] at h1; omega
  · intro x hx
    rcases List.mem_append.1 hx with hx | hx
    · exact h.mine x (hmT x hx)
    · rcases h'.mine x hx with h1 | h1
      · exact hmA _ h1
      · exact .inr (Nat.le_trans h.keeps.size h1)
  · intro x hx
    rcases List.mem_append.1 hx with hx | hx
    · rw [h'.keeps.block _ (h.lt x (hmT x hx)) (hTA x hx)]; exact h.holds x (hmT x hx)
    · exact h'.holds x hx
theorem At.drop {w0 w : World} {A : List Nat} {M : Hp} (h : At w0 A M w) (n : Nat) : At w0 A (M.drop n) w :=
  ⟨h.keeps, by have := h.nodup; unfold keys at this ⊢; rw [List.map_drop]; exact this.sublist (List.drop_sublist _ _), fun x hx => h.mine x (List.mem_of_mem_drop hx), fun x hx => h.holds x (List.mem_of_mem_drop hx)⟩
theorem L.callD (n : Nat) {f : FuncId} [Fun P f] {g : Operand} {xs : List Operand} {ts : Array TypeId} {vs cs fs us : List Value} {A : Hp} {pre : World → Prop} {R : Value → Hp → Prop} (spec : Ctr P f us A pre R) (hn : Nat.blt d s.n = true := by exact rfl)
    (hg : ev E g = some (.func (.func f) fs.toArray cs.toArray) := by exact rfl) (hx : evs E xs = some vs := by exact rfl) (hu : fs ++ vs ++ cs = us := by exact rfl) (hA : M.drop n = A := by exact rfl) (hpre : ∀ w, At s.w0 s.A M w → pre w := by exact fun _ _ => trivial)
    (k : ∀ v B, R v B → L P ops Q rest s ((d, v) :: E) (M.take n ++ B)) : L P ops Q (⟨some d, .call { callee := .value g, args := xs.toArray, argTypes := ts }, t, pos, af, none⟩ :: rest) s E M := by
  intro a w hs
  refine wpListIn_plain rfl fun K hK => ⟨fun _ _ => trivial, ?_⟩
  rw [Oper.semAt_eq _ _ _ (by intro c h; cases h), call_run hs hg hx]
  have hB := hs.at_.drop n
  refine ⟨(fun h => by cases h), calls_fen ?_⟩
  subst hA
  rw [hu]
  refine (spec w hB.nodup hB.holds (hpre w hs.at_)).mono ?_
  rintro e w' ⟨v, B, rfl, hr, hw⟩
  have hT : At s.w0 s.A (M.take n ++ M.drop n) w := by rw [List.take_append_drop]; exact hs.at_
  exact hK _ _ (k v B hr _ _ (hs.put hn v (hT.tail hw)))
theorem Post.mkD {w0 w : World} {A : List Nat} {R : Value → Hp → Prop} {v : Value} {B : Hp} (n : Nat) (h : At w0 A M w) (hp : M.drop n = B) (hr : R v B) : Post w0 A R (.returned v) w := ⟨v, B, rfl, hr, hp ▸ h.drop n⟩
theorem Sat.lessE {E' : Env} {M' : Hp} (hM : M = M') (hE : ∀ i v, lk E' i = some v → lk E i = some v) {a : Act} {w : World} (h : Sat s E M a w) : Sat s E' M' a w :=
  ⟨hM ▸ h.at_, h.defers, h.size, fun i v hi => h.env i v (hE i v hi)⟩
end
end Go.Proofs.Ytbcaelhchmoigaa.SL
