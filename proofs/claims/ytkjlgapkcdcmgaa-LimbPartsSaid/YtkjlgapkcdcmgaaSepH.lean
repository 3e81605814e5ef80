/- The separation logic's rules: an element of an own slice is turned; three makers left in a drawn region. No program in sight. -/
import Derived.Test.YtkjlgapkcdcmgaaSepL
set_option linter.unusedVariables false
set_option linter.unusedSimpArgs false
namespace Go.Proofs.Ytkjlgapkcdcmgaa.SL
open Go Go.RowKit
def osSet : OS → Nat → Value → OS
  | none, _, _ => none
  | some (b, l, cap), k, v => some (b, l.set k v, cap)
theorem osV_set (m : Nat) (y : OS) (k : Nat) (v : Value) : osV m (osSet y k v) = osV m y := by rcases y with _ | ⟨b, l, cap⟩ <;> rfl
theorem osG.set {n m k : Nat} {cs : List Value} {y : OS} {v : Value} (h : osG n m cs y) : osG n m (cs.set k v) (osSet y k v) := by
  rcases y with _ | ⟨b, l, cap⟩
  · obtain ⟨rfl, rfl⟩ := h; exact ⟨rfl, by simp⟩
  · obtain ⟨h1, h2, h3, h4⟩ := h
    exact ⟨by simpa using h1, h2, h3, by rw [List.take_set, h4]⟩
def osSetL : OS → Nat → List Value → OS
  | none, _, _ => none
  | some (b, l, cap), k, vs => some (b, setL l k vs, cap)
theorem osV_setL (m : Nat) (y : OS) (k : Nat) (vs : List Value) : osV m (osSetL y k vs) = osV m y := by rcases y with _ | ⟨b, l, cap⟩ <;> rfl
theorem setL_take (p : Nat) : ∀ (vs : List Value) (l : List Value) (o : Nat), (setL l o vs).take p = setL (l.take p) o vs
  | [], _, _ => rfl
  | v :: vs, l, o => by
    show (setL (l.set o v) (o + 1) vs).take p = setL ((l.take p).set o v) (o + 1) vs
    rw [setL_take p vs, List.take_set]
theorem osG.setL {n m k : Nat} {cs : List Value} {y : OS} {vs : List Value} (h : osG n m cs y) (hne : m ≠ 0) : osG n m (SL.setL cs k vs) (osSetL y k vs) := by
  rcases y with _ | ⟨b, l, cap⟩
  · exact absurd h.1 hne
  · obtain ⟨h1, h2, h3, h4⟩ := h
    exact ⟨by rw [setL_length]; exact h1, h2, h3, by rw [setL_take, h4]⟩
section
variable {P : Program} {ops : Array Oper} {Q : Exit → Act → World → Prop} {s : St} {E : Env} {M M0 : Hp} {rest : List Oper} {acc : List Pl} {d t : Nat} {pos : String} {af : Array Edge}
/-- The cells of an own slice, in the world; its block is among those known. -/
theorem osG.rdm {n m T : Nat} {cs : List Value} {y : OS} {w0 w : World} {A : List Nat} (h : osG n m cs y) (hw : At w0 A M w) (hsub : ∀ x ∈ osC T y [], x ∈ M) : Rd w [] (osV m y) m cs := by
  rcases y with _ | ⟨b, l, cap⟩
  · obtain ⟨rfl, rfl⟩ := h; exact Rd.nil
  · obtain ⟨h1, h2, h3, h4⟩ := h
    exact Rd.own (hw.holds (b, ob l T) (hsub _ List.mem_cons_self)) (by simp) h2 _ h4
theorem osG.rdk {n m T : Nat} {cs : List Value} {y : OS} {w0 w : World} {A A' : List Nat} (h : osG n m cs y) (hw : At w0 A M w) (hsub : ∀ x ∈ osC T y [], x ∈ M) (hA : ∀ x ∈ osC T y [], x.1 ∉ A') : Rd w A' (osV m y) m cs := by
  rcases y with _ | ⟨b, l, cap⟩
  · obtain ⟨rfl, rfl⟩ := h; exact Rd.nil
  · obtain ⟨h1, h2, h3, h4⟩ := h
    exact Rd.own (hw.holds (b, ob l T) (hsub _ List.mem_cons_self)) (hA _ List.mem_cons_self) h2 _ h4
/-- Rows that are put together in another order. -/
theorem perm_by {α : Type} (f : Nat → List α) (p q : List Nat) {X Y : List α} (hx : X = p.flatMap f) (hy : Y = q.flatMap f) (h : p.Perm q := by decide) : X.Perm Y := by
  rw [hx, hy]; exact h.flatMap_right f
/-- A cell of an own slice is turned. -/
theorem L.setU (L1 : Hp) {x z : Operand} {T e n m i j b o : Nat} {cs : List Value} {y : OS} {L2 : Hp} {u v : Value} [hz : Siz P T 1] (hG : osG n m cs y) (hM : M = L1 ++ osC e y L2) (hu : osV m y = u) (hi : i < m) (hj : j < n)
    (hx : ev E x = some (.pointer (some ⟨b, o, none⟩)) := by exact rfl) (hy : ev E z = some v := by exact rfl) (hb : b = sB u := by exact rfl) (ho : o = sO u + i * n + j := by exact rfl)
    (hc : v.cells = [v].toArray := by exact rfl) (h1 : oneB v = true := by exact rfl)
    (c : osG n m (cs.set (i * n + j) v) (osSet y (i * n + j) v) → osV m (osSet y (i * n + j) v) = u → L P ops Q rest s E (L1 ++ osC e (osSet y (i * n + j) v) L2)) : L P ops Q (⟨none, .store T x z, t, pos, af, none⟩ :: rest) s E M := by
  have c' := c hG.set (by rw [osV_set]; exact hu)
  clear c
  subst hu
  rcases y with _ | ⟨b', l, cap⟩
  · obtain ⟨rfl, _⟩ := hG; omega
  · obtain ⟨g1, g2, g3, g4⟩ := hG
    simp only [osV, sB, sO] at hb ho
    subst hb
    have hlt : i * n + j < l.length := by
      have := Nat.mul_le_mul_right n (show i + 1 ≤ m by omega)
      have h2 := Nat.mul_le_mul_right n g2
      rw [Nat.add_mul] at this; omega
    refine L.storeK (T' := e) L1.length (k := i * n + j) hlt (by omega) (hx := hx) (hy := hy) (hi := ?_) (hc := hc) (h1 := h1) (M' := L1 ++ osC e (osSet (some (b, l, cap)) (i * n + j) v) L2) (hM := ?_) c'
    · rw [hM]; exact hat_app L1 _ L2
    · rw [hM]; exact hset_app L1 b _ _ L2
/-- An element of an own slice is turned, whole. -/
theorem L.setUA (L1 : Hp) {x z : Operand} {T e n m i b o : Nat} {cs vs : List Value} {y : OS} {L2 : Hp} {u : Value} [hz : Siz P T n] (hG : osG n m cs y) (hM : M = L1 ++ osC e y L2) (hu : osV m y = u) (hi : i < m) (hlen : vs.length = n) (ho1 : vs.all oneB = true)
    (hx : ev E x = some (.pointer (some ⟨b, o, none⟩)) := by exact rfl) (hy : ev E z = some (.agg vs.toArray) := by exact rfl) (hb : b = sB u := by exact rfl) (ho : o = sO u + i * n := by exact rfl)
    (c : osG n m (setL cs (i * n) vs) (osSetL y (i * n) vs) → osV m (osSetL y (i * n) vs) = u → L P ops Q rest s E (L1 ++ osC e (osSetL y (i * n) vs) L2)) : L P ops Q (⟨none, .store T x z, t, pos, af, none⟩ :: rest) s E M := by
  have c' := c (hG.setL (by omega)) (by rw [osV_setL]; exact hu)
  clear c
  subst hu
  rcases y with _ | ⟨b', l, cap⟩
  · obtain ⟨rfl, _⟩ := hG; omega
  · obtain ⟨g1, g2, g3, g4⟩ := hG
    simp only [osV, sB, sO] at hb ho
    subst hb
    have hlt : i * n + n ≤ l.length := by
      have := Nat.mul_le_mul_right n (show i + 1 ≤ m by omega)
      have h2 := Nat.mul_le_mul_right n g2
      rw [Nat.add_mul] at this; omega
    have ho' : o = i * n := by omega
    subst ho'
    refine L.storeV (T' := e) L1.length (vs := vs) (l' := setL l (i * n) vs) (hx := hx) (hy := hy) (hi := ?_) (hc := rfl) (hlen := hlen) (ho := ho1) (hb := Nat.ble_eq_true_of_le hlt) (hl := rfl) (M' := L1 ++ osC e (osSetL (some (b, l, cap)) (i * n) vs) L2) (hM := ?_) c'
    · rw [hM]; exact hat_app L1 _ L2
    · rw [hM]; exact hset_app L1 b _ _ L2
theorem QP.fin3 (tks : List (Option (List Nat))) (j1 j2 j3 : Nat) {m1 m2 m3 : Mk} (ht : acc.reverse.map Pl.tk = tks := by exact rfl) (nds : List (List Nat)) (hnd : acc.reverse.map Pl.nd = nds := by exact rfl) (hok : okP ops tks nds = true := by decide +kernel) (hno : NdOk acc.reverse acc.reverse := by repeat (first | exact trivial | refine ⟨rfl, ?_⟩)) (hf : finals tks = [j1, j2, j3] := by decide +kernel) (hnc : ncE ops tks E = true := by kernel_rfl)
    (hM : M.Perm (acc.reverse.flatMap Pl.ini ++ M0)) (hj1 : acc.reverse[j1]? = some (.make m1) := by exact rfl) (hj2 : acc.reverse[j2]? = some (.make m2) := by exact rfl) (hj3 : acc.reverse[j3]? = some (.make m3) := by exact rfl)
    (k : ∀ F1 B1 F2 B2 F3 B3, m1.R F1 B1 → m2.R F2 B2 → m3.R F3 B3 → D Q .normal s (F1 ++ (F2 ++ (F3 ++ E))) (B1 ++ (B2 ++ (B3 ++ M0)))) : QP P ops Q M0 s M [] acc E :=
  ⟨tks, nds, E, ht, hnd, hno, hok, hM, fun x v hx => ⟨hx, ncE_ok hnc hx⟩, fun xs hx => by
    rw [hf] at hx
    match xs, hx with
    | [(F1, B1), (F2, B2), (F3, B3)], ⟨⟨m, h1, h2⟩, ⟨m', h3, h4⟩, ⟨m'', h5, h6⟩, _⟩ =>
      rw [hj1] at h1; cases h1
      rw [hj2] at h3; cases h3
      rw [hj3] at h5; cases h5
      have e1 : hps [(F1, B1), (F2, B2), (F3, B3)] ++ M0 = B1 ++ (B2 ++ (B3 ++ M0)) := by simp [hps]
      have e2 : envs [(F1, B1), (F2, B2), (F3, B3)] ++ E = F1 ++ (F2 ++ (F3 ++ E)) := by simp [envs]
      rw [e1, e2]
      exact k F1 B1 F2 B2 F3 B3 h2 h4 h6⟩
end
end Go.Proofs.Ytkjlgapkcdcmgaa.SL
