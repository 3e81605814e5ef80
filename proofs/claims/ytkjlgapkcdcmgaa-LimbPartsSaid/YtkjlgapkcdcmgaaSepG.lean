/- The separation logic's rules for guards of unknown truth: a block of guarded operations up to its pick. No program in sight. -/
import Derived.Test.YtkjlgapkcdcmgaaSepP
namespace Go.Proofs.Ytkjlgapkcdcmgaa.SL
open Go Go.RowKit
section
variable {P : Program} {ops : Array Oper} {Q : Exit → Act → World → Prop} {s : St} {E : Env} {M : Hp}
def EndsG (s : St) (E : Env) (M : Hp) (d : Nat) (v : Value) : Exit → Act → World → Prop := fun e a w => e = .normal ∧ Sat s ((d, v) :: E) M a w
theorem upon_swap {F : Fence} {n : Nat} {o : Oper} {a : Act} {K K' : Act → World → Prop} {Q' : Exit → Act → World → Prop} (hQ : ∀ e a w, Q' e a w → e = .normal) (h : ∀ a w, K a w → K' a w)
    {r : Result Next} (hh : o.uponIn F n P a K Q' r) : o.uponIn F n P a K' Q r := by
  have hnl : ¬ LetsOut Q' := fun ⟨a, w, h⟩ => by cases hQ _ _ _ h
  cases r with
  | ok x w' =>
    cases x <;> simp only [Oper.uponIn] at hh ⊢
    case value v => exact h _ _ hh
    case skip => exact h _ _ hh
    case defer d => exact h _ _ hh
    case enter f args =>
      refine ⟨hh.1, CallsIn.mono hh.2 (fun e w'' he => ?_)⟩
      cases e with
      | returned u => exact h _ _ he
      | panicked c => cases hQ _ _ _ he
      | outgrown => exact absurd he hnl
    case row row args => exact ⟨hh.1, RowsIn.mono hh.2 (fun _ _ he => h _ _ he)⟩
    case round l f tmps assign body =>
      refine ⟨hh.1, RoundIn.mono hh.2 (fun e w'' he => ?_)⟩
      cases e with
      | returned u => exact h _ _ he
      | panicked c => cases hQ _ _ _ he
      | outgrown => exact absurd he hnl
  | halt x w' =>
    cases x <;> simp only [Oper.uponIn] at hh ⊢
    case panic u => cases hQ _ _ _ hh
theorem list_swap {F : Fence} {n : Nat} {Q' : Exit → Act → World → Prop} (hQ : ∀ e a w, Q' e a w → e = .normal) : ∀ (l1 : List Oper) {l2 : List Oper} {a : Act} {w : World},
    wpListIn F n P ops Q' l1 a w → (∀ a w, Q' .normal a w → wpListIn F n P ops Q l2 a w) → wpListIn F n P ops Q (l1 ++ l2) a w
  | [], _, _, _, h, k => k _ _ h
  | o :: l1, l2, a, w, h, k => by
    rw [List.cons_append]
    unfold wpListIn at h ⊢
    split
    · rename_i hw
      rw [if_pos hw] at h
      unfold Oper.wpIn at h ⊢
      exact ⟨h.1, upon_swap hQ (fun a w h => list_swap hQ l1 h k) h.2⟩
    · rename_i hw
      rw [if_neg hw] at h
      exact ⟨h.1, list_swap hQ l1 h.2 k⟩
/-- The first n operations make slot d, the others are left behind. -/
theorem L.cut (n : Nat) {l : List Oper} {d : Nat} {v : Value} (h : L P ops (EndsG s E M d v) (l.take n) s E M) (k : L P ops Q (l.drop n) s ((d, v) :: E) M) : L P ops Q l s E M := by
  intro a w hs
  rw [← List.take_append_drop n l]
  exact list_swap (fun _ _ _ h => h.1) _ (h a w hs) (fun a w h => k a w h.2)
theorem Sat.known {c : Nat} {b b' : Bool} (hc : lk E c = some (.bool b)) (e : b = b') {a : Act} {w : World} (h : Sat s E M a w) : Sat s ((c, .bool b') :: E) M a w := by
  subst e
  exact ⟨h.at_, h.defers, h.size, fun i u hi => by
    rcases lk_put hi with ⟨rfl, rfl⟩ | ⟨_, hi⟩
    · exact h.env _ _ hc
    · exact h.env _ _ hi⟩
theorem Sat.unknown {c d : Nat} {v : Value} {b b' : Bool} (hc : lk E c = some (.bool b)) (e : b = b') {a : Act} {w : World} (h : Sat s ((d, v) :: (c, .bool b') :: E) M a w) : Sat s ((d, v) :: E) M a w := by
  subst e
  refine ⟨h.at_, h.defers, h.size, fun i u hi => h.env _ _ ?_⟩
  rcases lk_put hi with ⟨rfl, rfl⟩ | ⟨hne, hi⟩
  · unfold lk; split
    · rfl
    · rename_i hb; exact absurd rfl (Nat.ne_of_beq_eq_false hb)
  · unfold lk; split
    · rename_i hb; exact absurd (Nat.eq_of_beq_eq_true hb).symm hne
    · unfold lk; split
      · rename_i hb
        have := Nat.eq_of_beq_eq_true hb
        subst this
        rw [hc] at hi; exact hi
      · exact hi
theorem L.orB (n : Nat) {l : List Oper} {b1 b2 : Bool} {d c t : Nat} {pos : String} {af : Array Edge} {y : Operand} {g : Option (Nat × Bool)} {o : Oper} {l' : List Oper} {j : Nat × Bool}
    (_hh : l = o :: l' := by exact rfl) (_hg : o.guard = some j := by exact rfl) (_hl : l[n]? = some ⟨some d, .pick (.tmp c) (.const (.bool true)) y, t, pos, af, g⟩ := by exact rfl) (hc : lk E c = some (.bool b1) := by exact rfl)
    (h1 : b1 = true → L P ops (EndsG s ((c, .bool true) :: E) M d (.bool true)) (l.take (n + 1)) s ((c, .bool true) :: E) M)
    (h2 : b1 = false → L P ops (EndsG s ((c, .bool false) :: E) M d (.bool b2)) (l.take (n + 1)) s ((c, .bool false) :: E) M)
    (k : L P ops Q (l.drop (n + 1)) s ((d, .bool (b1 || b2)) :: E) M) : L P ops Q l s E M := by
  intro a w hs
  rw [← List.take_append_drop (n + 1) l]
  cases hb : b1 with
  | true =>
    rw [hb] at k
    exact list_swap (fun _ _ _ h => h.1) _ (h1 hb a w (hs.known hc hb)) (fun a w h => k a w (Sat.unknown hc hb h.2))
  | false =>
    rw [hb] at k
    exact list_swap (fun _ _ _ h => h.1) _ (h2 hb a w (hs.known hc hb)) (fun a w h => k a w (Sat.unknown hc hb h.2))
theorem L.andB (n : Nat) {l : List Oper} {b1 b2 : Bool} {d c t : Nat} {pos : String} {af : Array Edge} {y : Operand} {g : Option (Nat × Bool)} {o : Oper} {l' : List Oper} {j : Nat × Bool}
    (_hh : l = o :: l' := by exact rfl) (_hg : o.guard = some j := by exact rfl) (_hl : l[n]? = some ⟨some d, .pick (.tmp c) y (.const (.bool false)), t, pos, af, g⟩ := by exact rfl) (hc : lk E c = some (.bool b1) := by exact rfl)
    (h1 : b1 = true → L P ops (EndsG s ((c, .bool true) :: E) M d (.bool b2)) (l.take (n + 1)) s ((c, .bool true) :: E) M)
    (h2 : b1 = false → L P ops (EndsG s ((c, .bool false) :: E) M d (.bool false)) (l.take (n + 1)) s ((c, .bool false) :: E) M)
    (k : L P ops Q (l.drop (n + 1)) s ((d, .bool (b1 && b2)) :: E) M) : L P ops Q l s E M := by
  intro a w hs
  rw [← List.take_append_drop (n + 1) l]
  cases hb : b1 with
  | true =>
    rw [hb] at k
    exact list_swap (fun _ _ _ h => h.1) _ (h1 hb a w (hs.known hc hb)) (fun a w h => k a w (Sat.unknown hc hb h.2))
  | false =>
    rw [hb] at k
    exact list_swap (fun _ _ _ h => h.1) _ (h2 hb a w (hs.known hc hb)) (fun a w h => k a w (Sat.unknown hc hb h.2))
theorem lk_skip : ∀ {E1 E : Env} (k : Nat) {i : Nat}, E1.drop k = E → ((E1.take k).any fun x => Nat.beq x.1 i) = false → lk E1 i = lk E i
  | E1, E, 0, i, h, _ => by rw [← h]; rfl
  | [], E, k + 1, i, h, _ => by rw [← h]; rfl
  | (j, u) :: E1, E, k + 1, i, h, hf => by
    simp only [List.take_succ_cons, List.any_cons, Bool.or_eq_false_iff] at hf
    have := lk_skip (E1 := E1) (E := E) k (i := i) h hf.2
    rw [← this]
    show (match Nat.beq j i with | true => some u | false => lk E1 i) = _
    rw [hf.1]
/-- The block is done: none of the slots known ahead was turned. -/
theorem D.endsG {E1 : Env} {d : Nat} {v : Value} {s' : St} (hd : lk E1 d = some v := by exact rfl) (hs : E1.drop (E1.length - E.length) = E := by kernel_rfl)
    (hf : (E.any fun y => (E1.take (E1.length - E.length)).any fun x => Nat.beq x.1 y.1) = false := by kernel_rfl) (he : s' = s := by exact rfl) : D (EndsG s E M d v) .normal s' E1 M := by
  subst he
  intro a w h
  refine ⟨rfl, h.at_, h.defers, h.size, fun i u hi => h.env i u ?_⟩
  rcases lk_put hi with ⟨rfl, rfl⟩ | ⟨hne, hi⟩
  · exact hd
  · rw [lk_skip (E1.length - E.length) (E := E) hs ?_]
    · exact hi
    · cases hc : ((E1.take (E1.length - E.length)).any fun x => Nat.beq x.1 i) with
      | false => rfl
      | true =>
        exfalso
        have : ∀ {E : Env} {u : Value}, lk E i = some u → ∃ y ∈ E, y.1 = i := by
          intro E
          induction E with
          | nil => intro u h; cases h
          | cons x r ih =>
            intro u h
            obtain ⟨j, q⟩ := x
            rcases lk_put h with ⟨rfl, _⟩ | ⟨_, h⟩
            · exact ⟨_, List.mem_cons_self, rfl⟩
            · obtain ⟨y, hy, e⟩ := ih h
              exact ⟨y, List.mem_cons_of_mem _ hy, e⟩
        obtain ⟨y, hy, rfl⟩ := this hi
        have := List.any_eq_false.1 hf y hy
        exact this hc
end
end Go.Proofs.Ytkjlgapkcdcmgaa.SL
