/- Calls that hand back slices, left behind to be read at once. No program in sight. -/
import Derived.Test.YtbackpcohkblfaaSepX
set_option linter.unusedVariables false
set_option linter.unusedSimpArgs false
namespace Go.Proofs.Ytbackpcohkblfaa.SL
open Go Go.RowKit
section
variable {P : Program} {ops : Array Oper} {Q : Exit → Act → World → Prop} {s : St} {E : Env} {M : Hp} {rest : List Oper} {d t : Nat} {pos : String} {af : Array Edge}
theorem Sat.lessD {E' : Env} {M' : Hp} (n : Nat) (hM : M.drop n = M') (hE : ∀ i v, lk E' i = some v → lk E i = some v) {a : Act} {w : World} (h : Sat s E M a w) : Sat s E' M' a w :=
  ⟨hM ▸ h.at_.drop n, h.defers, h.size, fun i v hi => h.env i v (hE i v hi)⟩
/-- A slice among others is handed back. -/
theorem L.callO {f : FuncId} [Fun P f] {xs : List Operand} {ts : Array TypeId} {vs : List Value} {pre : World → Prop} {G : Value → List Value} {n m T : Nat} {cs : List Value}
    (spec : Ctr P f vs [] pre (fun v B => ∃ y, osG n m cs y ∧ v = shut (G (osV m y)) ∧ B = osC T y []))
    (hn : Nat.blt d s.n = true := by exact rfl) (hx : evs E xs = some vs := by exact rfl) (hpre : ∀ w, At s.w0 s.A M w → pre w := by exact fun _ _ => trivial)
    (k : ∀ y w1, At s.w0 s.A (osC T y [] ++ M) w1 → Rd w1 (keys M) (osV m y) m cs → L P ops Q rest { s with w0 := w1, A := keys M } ((d, shut (G (osV m y))) :: E) M) :
    L P ops Q (⟨some d, .call { callee := .value (.func f), args := xs.toArray, argTypes := ts }, t, pos, af, none⟩ :: rest) s E M := by
  refine L.callP [] spec hn hx rfl (by decide) hpre ?_
  rintro v B ⟨y, hG, rfl, rfl⟩
  rw [hdrop_nil]
  exact L.base (osC T y []) rfl (fun w1 h1 => k y w1 h1 (hG.left h1))
theorem L.loadF {x : Operand} {T b o off i : Nat} {l : List Value} [hT : Sgl P T] {v : Value} (h : Old s.w0 s.A b off l) (hv : l[i]? = some v) (hn : Nat.blt d s.n = true := by exact rfl) (hx : ev E x = some (.pointer (some ⟨b, o, none⟩)) := by exact rfl) (ho : o = off + i := by exact rfl)
    (c : L P ops Q rest s ((d, v) :: E) M) : L P ops Q (⟨some d, .load T x, t, pos, af, none⟩ :: rest) s E M := L.loadO (n := 0) h hn hx ho hv c
/-- A part of what reads. -/
theorem Rd.sub {w : World} {A : List Nat} {v v' : Value} {n lo hi sz : Nat} {l l' : List Value} (h : Rd w A v n l) (h2 : hi ≤ n) (h1 : SlV v' (hi - lo)) (hb : lo < hi → sB v' = sB v ∧ sO v' = sO v + lo * sz)
    (hl : ∀ i u, l'[i]? = some u → l[lo * sz + i]? = some u) : Rd w A v' (hi - lo) l' := ⟨h1, fun hp => by
  obtain ⟨e1, e2⟩ := hb (by omega)
  obtain ⟨g1, g2, g3⟩ := h.2 (by omega)
  refine ⟨by rw [e1]; exact g1, by rw [e1]; exact g2, fun i u hi => ?_⟩
  rw [e1, e2, Nat.add_assoc]
  exact g3 _ _ (hl i u hi)⟩
end
end Go.Proofs.Ytbackpcohkblfaa.SL
